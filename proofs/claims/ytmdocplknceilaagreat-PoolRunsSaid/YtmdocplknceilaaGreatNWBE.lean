import Derived.Test.YtmdocplknceilaaGreatNWBC
set_option linter.all false
set_option maxRecDepth 100000
set_option maxHeartbeats 4000000
namespace Go.Proofs.YtmdocplknceilaaGreat
section
open Go.RowKit Go.Maps
theorem ug(k:Int)(w:World):Calls Tryz.prog 124 #[.int .u8 k] w λn w'=>n=.returned (.tuple #[.bool (dS k),.bool (mZ k),.bool (na k),.bool (nc k)])/\w=w':=by
 by_cases g:1<=k/\k<=14
 rotate_left
 ·have c:dS k=false:=yd (by omega)
  have d:mZ k=false:=yd (by omega);have e:na k=false:=yd (by omega);have f:nc k=false:=yd (by omega);rw[c,d,e,f];have q:(k==1)=false:=bF (by omega);have r:(k==10)=false:=bF (by omega);have s:(k==11)=false:=bF (by omega);have t:(k==12)=false:=bF (by omega);have u:(k==14)=false:=bF (by omega)
  by_cases i:k<1
  ·have j:decide (1<=k)=false:=yd (by omega)
   have l:decide (2<=k)=false:=yd (by omega);have m:decide (3<=k)=false:=yd (by omega);clear g i c d e f;go_enter Tryz.func124,Tryz.ntmps124;go_wp2_with fail;refine bodyPost_ret (cE rfl _ _ _) rfl ?_;exact⟨by rfl,rfl⟩
  ·have j:decide (1<=k)=true:=yg (by omega)
   have l:decide (2<=k)=true:=yg (by omega);have m:decide (3<=k)=true:=yg (by omega);have o:decide (k<=9)=false:=yd (by omega);clear g i c d e f;go_enter Tryz.func124,Tryz.ntmps124;go_wp2_with fail;refine bodyPost_ret (cE rfl _ _ _) rfl ?_;exact⟨by rfl,rfl⟩
 have a:k=1\/k=2\/k=3\/k=4\/k=5\/k=6\/k=7\/k=8\/k=9\/k=10\/k=11\/k=12\/k=13\/k=14:=by omega
 clear g
 rcases a with a|a|a|a|a|a|a|a|a|a|a|a|a|a
 ·subst a
  have b:dS 1=(dS 1):=rfl;go_enter Tryz.func124,Tryz.ntmps124;go_wp2_with fail;refine bodyPost_ret (cE rfl _ _ _) rfl ?_;exact⟨by rfl,rfl⟩
 ·subst a
  have b:dS 2=(dS 2):=rfl;go_enter Tryz.func124,Tryz.ntmps124;go_wp2_with fail;refine bodyPost_ret (cE rfl _ _ _) rfl ?_;exact⟨by rfl,rfl⟩
 ·subst a
  have b:dS 3=(dS 3):=rfl;go_enter Tryz.func124,Tryz.ntmps124;go_wp2_with fail;refine bodyPost_ret (cE rfl _ _ _) rfl ?_;exact⟨by rfl,rfl⟩
 ·subst a
  have b:dS 4=(dS 4):=rfl;go_enter Tryz.func124,Tryz.ntmps124;go_wp2_with fail;refine bodyPost_ret (cE rfl _ _ _) rfl ?_;exact⟨by rfl,rfl⟩
 ·subst a
  have b:dS 5=(dS 5):=rfl;go_enter Tryz.func124,Tryz.ntmps124;go_wp2_with fail;refine bodyPost_ret (cE rfl _ _ _) rfl ?_;exact⟨by rfl,rfl⟩
 ·subst a
  have b:dS 6=(dS 6):=rfl;go_enter Tryz.func124,Tryz.ntmps124;go_wp2_with fail;refine bodyPost_ret (cE rfl _ _ _) rfl ?_;exact⟨by rfl,rfl⟩
 ·subst a
  have b:dS 7=(dS 7):=rfl;go_enter Tryz.func124,Tryz.ntmps124;go_wp2_with fail;refine bodyPost_ret (cE rfl _ _ _) rfl ?_;exact⟨by rfl,rfl⟩
 ·subst a
  have b:dS 8=(dS 8):=rfl;go_enter Tryz.func124,Tryz.ntmps124;go_wp2_with fail;refine bodyPost_ret (cE rfl _ _ _) rfl ?_;exact⟨by rfl,rfl⟩
 ·subst a
  have b:dS 9=(dS 9):=rfl;go_enter Tryz.func124,Tryz.ntmps124;go_wp2_with fail;refine bodyPost_ret (cE rfl _ _ _) rfl ?_;exact⟨by rfl,rfl⟩
 ·subst a
  have b:dS 10=(dS 10):=rfl;go_enter Tryz.func124,Tryz.ntmps124;go_wp2_with fail;refine bodyPost_ret (cE rfl _ _ _) rfl ?_;exact⟨by rfl,rfl⟩
 ·subst a
  have b:dS 11=(dS 11):=rfl;go_enter Tryz.func124,Tryz.ntmps124;go_wp2_with fail;refine bodyPost_ret (cE rfl _ _ _) rfl ?_;exact⟨by rfl,rfl⟩
 ·subst a
  have b:dS 12=(dS 12):=rfl;go_enter Tryz.func124,Tryz.ntmps124;go_wp2_with fail;refine bodyPost_ret (cE rfl _ _ _) rfl ?_;exact⟨by rfl,rfl⟩
 ·subst a
  have b:dS 13=(dS 13):=rfl;go_enter Tryz.func124,Tryz.ntmps124;go_wp2_with fail;refine bodyPost_ret (cE rfl _ _ _) rfl ?_;exact⟨by rfl,rfl⟩
 ·subst a
  have b:dS 14=(dS 14):=rfl;go_enter Tryz.func124,Tryz.ntmps124;go_wp2_with fail;refine bodyPost_ret (cE rfl _ _ _) rfl ?_;exact⟨by rfl,rfl⟩
theorem me(x:Int)(w:World):Calls Tryz.prog 122 #[.int .i64 x] w λd w'=>d=.returned (.bool (co x))/\w=w':=by
 by_cases b:0<=x
 ·have e:decide (0<=x)=true:=yg b
  by_cases c:x<=16
  ·have a:co x=true:=yg (by omega)
   rw[a];have f:decide (x<=16)=true:=yg c;go_enter Tryz.func122,Tryz.ntmps122;go_wp2_with fail;go_ret;exact⟨rfl,rfl⟩
  ·have a:co x=false:=yd (by omega)
   rw[a];have f:decide (x<=16)=false:=yd c;go_enter Tryz.func122,Tryz.ntmps122;go_wp2_with fail;go_ret;exact⟨rfl,rfl⟩
 ·have e:decide (0<=x)=false:=yd b
  have a:co x=false:=yd (by omega);rw[a];go_enter Tryz.func122,Tryz.ntmps122;go_wp2_with fail;go_ret;exact⟨rfl,rfl⟩
theorem Em(o:bI)(w:World):Calls Tryz.prog 123 #[cR o] w λi w'=>i=.returned (.bool (cF o))/\ac w w':=by
 obtain⟨L,m⟩:=eX (w.alloc (.cells #[.int .u8 o.k,.int .i64 o.d,.int .i64 o.a,.int .i64 o.b,.int .i64 o.n] 106));have Q:ac w L:=by rw[m];exact(aa.refl _ w).alloc _
 have t:ae L w.heap.size 106 #[.int .u8 o.k,.int .i64 o.d,.int .i64 o.a,.int .i64 o.b,.int .i64 o.n]:=by rw[m];exact bN
 obtain⟨g,v⟩:=eX w.heap.size;rw[<-v] at t;obtain⟨a9,ab,ad,ai,al⟩:=t.gE5;have E:=hD (ug o.k);have G:=hD (me o.d);have H:=hD (me o.a);have K:=hD (me o.b);obtain⟨a1,z⟩ :∃x,x=(o.d==0):=⟨_,rfl⟩
 obtain⟨R,B⟩ :∃x,x=(o.a==0):=⟨_,rfl⟩
 obtain⟨r,C⟩ :∃x,x=(o.b==0):=⟨_,rfl⟩
 obtain⟨e,D⟩ :∃x,x=(o.n==0):=⟨_,rfl⟩
 have f:Hd (rB o.k=decide (1<=o.k/\o.k<=14)):=hD rfl;unfold cF;rw[<-z,<-B,<-C,<-D];generalize dS o.k=d at*;generalize mZ o.k=a at*;generalize na o.k=b at*;generalize nc o.k=n at*;generalize co o.d=Y at*;generalize co o.a=Z at*;generalize co o.b=a0 at*;generalize rB o.k=P at*;have S:=hD (aI z.symm (aI B.symm (aI C.symm D.symm)));have c:=hD Q;have s:=hD v;have l:=hD m.symm;unfold cR;clear Q t v m z B C D
 by_cases j:1<=o.k/\o.k<=14
 rotate_left
 ·have y:P=false:=by rw[f.O];exact yd j
  subst y
  by_cases q:o.k<1
  ·have u:decide (o.k<1)=true:=yg q
   clear j q f;go_enter Tryz.func123,Tryz.ntmps123;go_upto_region 1 with fail;rw[l.O,<-s.O];go_wp2_with fail;go_ret;exact⟨rfl,c.O⟩
  ·have u:decide (o.k<1)=false:=yd q
   have N:decide (14<o.k)=true:=yg (by omega);clear j q f;go_enter Tryz.func123,Tryz.ntmps123;go_upto_region 1 with fail;rw[l.O,<-s.O];go_wp2_with fail;go_ret;exact⟨rfl,c.O⟩
 have y:P=true:=by rw[f.O];exact yg j
 subst y;have u:decide (o.k<1)=false:=yd (by omega);have N:decide (14<o.k)=false:=yd (by omega);clear j f;go_enter Tryz.func123,Tryz.ntmps123;go_upto_region 1 with fail;rw[l.O,<-s.O];clear l;go_wp2_with fail;refine(G.O _).mono ?_;rintro i a6 ⟨rfl,T⟩;subst T
 cases Y
 ·go_wp2_with fail
  go_ret;exact⟨rfl,c.O⟩
 go_wp2_with fail;refine(H.O _).mono ?_;rintro i a7 ⟨rfl,V⟩;subst V
 cases Z
 ·go_wp2_with fail
  go_ret;exact⟨rfl,c.O⟩
 go_wp2_with fail;refine(K.O _).mono ?_;rintro i a8 ⟨rfl,W⟩;subst W
 cases a0
 ·go_wp2_with fail
  go_ret;exact⟨rfl,c.O⟩
 go_wp2_with fail;refine(E.O _).mono ?_;rintro i wh ⟨rfl,X⟩;subst X;obtain⟨a2,a3,a4,a5⟩:=S.O;clear u N G H K E
 cases d
 ·cases a1
  ·go_wp2_with fail
   go_ret;exact⟨rfl,c.O⟩
  ·cases a
   ·cases R
    ·go_wp2_with fail
     go_ret;exact⟨rfl,c.O⟩
    ·cases b
     ·cases r
      ·go_wp2_with fail
       go_ret;exact⟨rfl,c.O⟩
      ·cases n
       ·cases e
        ·go_wp2_with fail
         go_ret;exact⟨rfl,c.O⟩
        ·go_wp2_with fail
         go_ret;exact⟨rfl,c.O⟩
       ·go_wp2_with fail
        go_ret;exact⟨rfl,c.O⟩
     ·cases n
      ·cases e
       ·go_wp2_with fail
        go_ret;exact⟨rfl,c.O⟩
       ·go_wp2_with fail
        go_ret;exact⟨rfl,c.O⟩
      ·go_wp2_with fail
       go_ret;exact⟨rfl,c.O⟩
   ·cases b
    ·cases r
     ·go_wp2_with fail
      go_ret;exact⟨rfl,c.O⟩
     ·cases n
      ·cases e
       ·go_wp2_with fail
        go_ret;exact⟨rfl,c.O⟩
       ·go_wp2_with fail
        go_ret;exact⟨rfl,c.O⟩
      ·go_wp2_with fail
       go_ret;exact⟨rfl,c.O⟩
    ·cases n
     ·cases e
      ·go_wp2_with fail
       go_ret;exact⟨rfl,c.O⟩
      ·go_wp2_with fail
       go_ret;exact⟨rfl,c.O⟩
     ·go_wp2_with fail
      go_ret;exact⟨rfl,c.O⟩
 ·cases a
  ·cases R
   ·go_wp2_with fail
    go_ret;exact⟨rfl,c.O⟩
   ·cases b
    ·cases r
     ·go_wp2_with fail
      go_ret;exact⟨rfl,c.O⟩
     ·cases n
      ·cases e
       ·go_wp2_with fail
        go_ret;exact⟨rfl,c.O⟩
       ·go_wp2_with fail
        go_ret;exact⟨rfl,c.O⟩
      ·go_wp2_with fail
       go_ret;exact⟨rfl,c.O⟩
    ·cases n
     ·cases e
      ·go_wp2_with fail
       go_ret;exact⟨rfl,c.O⟩
      ·go_wp2_with fail
       go_ret;exact⟨rfl,c.O⟩
     ·go_wp2_with fail
      go_ret;exact⟨rfl,c.O⟩
  ·cases b
   ·cases r
    ·go_wp2_with fail
     go_ret;exact⟨rfl,c.O⟩
    ·cases n
     ·cases e
      ·go_wp2_with fail
       go_ret;exact⟨rfl,c.O⟩
      ·go_wp2_with fail
       go_ret;exact⟨rfl,c.O⟩
     ·go_wp2_with fail
      go_ret;exact⟨rfl,c.O⟩
   ·cases n
    ·cases e
     ·go_wp2_with fail
      go_ret;exact⟨rfl,c.O⟩
     ·go_wp2_with fail
      go_ret;exact⟨rfl,c.O⟩
    ·go_wp2_with fail
     go_ret;exact⟨rfl,c.O⟩
def jG(w:World)(F:Nat->Prop)(A:Option Addr)(ops:List bI):Prop:=
 (True/\ops= [])\/∃b o,A=some ⟨b,o,none⟩/\∀(k:Nat) (x:bI),ops[k]?=some x->F b/\∀(j:Nat) (v:Value),(eJ x)[j]?=some v->w.cell? ⟨b,o+k*5+j,none⟩=some v
def fN(w:World)(F:Nat->Prop)(A:Option Addr)(p:List ah):Prop:=
 (True/\p= [])\/∃b o,A=some ⟨b,o,none⟩/\∀(i:Nat) (x:ah),p[i]?=some x->F b/\w.cell? ⟨b,o+i*3,none⟩=some (.int .i64 x.args)/\w.cell? ⟨b,o+i*3+1,none⟩=some (.int .i64 x.rg)/\
  ∃B c,w.cell? ⟨b,o+i*3+2,none⟩=some (.slice B x.ops.length c)/\jG w F B x.ops
section
variable {w w':World}{F F':Nat->Prop}{A:Option Addr}{ops:List bI}{p:List ah}
theorem jG.kp{S:Nat->Prop}(a:jG w F A ops)(i:aa S w w')(f:∀b,F b->¬S b):jG w' F A ops:=by
 rcases a with a|⟨b,o,e,c⟩
 ·exact .inl a
 ·refine .inr ⟨b,o,e,λk x d=>⟨(c k x d).1,λj v g=>?_⟩⟩
  have:=(c k x d).2 j v g;exact(i.I (p:=⟨b,o+k*5+j,none⟩) (block_lt_of_cell this) (f b (c k x d).1)).trans this
theorem fN.kp{S:Nat->Prop}(d:fN w F A p)(f:aa S w w')(e:∀b,F b->¬S b):fN w' F A p:=by
 rcases d with d|⟨b,o,k,l⟩
 ·exact .inl d
 ·refine .inr ⟨b,o,k,λi x m=>?_⟩
  obtain⟨g,n,q,B,c,r,s⟩:=l i x m;have a:∀(j:Nat) (v:Value),w.cell? ⟨b,j,none⟩=some v->w'.cell? ⟨b,j,none⟩=some v:=λj v hv=>(f.I (p:=⟨b,j,none⟩) (block_lt_of_cell hv) (e b g)).trans hv
  exact⟨g,a _ _ n,a _ _ q,B,c,a _ _ r,s.kp f e⟩
theorem jG.at_(d:jG w F A ops){k:Nat}{x:bI}(c:ops[k]?=some x):∃b o,A=some ⟨b,o,none⟩/\∀(j:Nat) (v:Value),(eJ x)[j]?=some v->w.cell? ⟨b,o+k*5+j,none⟩=some v:=by
 rcases d with⟨_,a⟩|⟨b,o,e,a⟩
 ·rw[a] at c;simp at c
 ·exact⟨b,o,e,(a k x c).2⟩
theorem fN.at_(e:fN w F A p){i:Nat}{x:ah}(d:p[i]?=some x):∃b o B c,A=some ⟨b,o,none⟩/\w.cell? ⟨b,o+i*3,none⟩=some (.int .i64 x.args)/\w.cell? ⟨b,o+i*3+1,none⟩=some (.int .i64 x.rg)/\w.cell? ⟨b,o+i*3+2,none⟩=some (.slice B x.ops.length c)/\jG w F B x.ops:=by
 rcases e with⟨_,a⟩|⟨b,o,f,a⟩
 ·rw[a] at d;simp at d
 ·obtain⟨_,g,j,B,c,k,l⟩:=a i x d
  exact⟨b,o,B,c,f,g,j,k,l⟩
theorem jG.U(a:jG w F A ops)(b:ac w w'):jG w' F A ops:=a.kp b nG
theorem fN.U(a:fN w F A p)(b:ac w w'):fN w' F A p:=a.kp b nG
end
theorem kL{p:List ah}{k:Nat}{x:ah}(b:p[k]?=some x)(a:fZ x=true):ig p=false:=by
 unfold ig;have:p.any fZ=true:=zT.2 ⟨x,yh b,a⟩;rw[this];simp
theorem sV{α:Type}(a:α->Bool){l:List α}{k:Nat}{x:α}(d:l[k]?=some x)(b:(l.take k).any a=false)(c:a x=false):(l.take (k+1)).any a=false:=by
 rw[yO,d];simp[List.any_append,b,c]
theorem wP(p:List ah)(A:Option Addr)(c:Nat)(F:Nat->Prop)(w:World)(av:fN w F A p)(b1:p.length<=1000)(b3:∀x∈p,x.ops.length<=1000):
 Calls Tryz.prog 70 #[aP p A c] w λe w'=>e=.returned (.bool (ig p))/\ac w w':=by
 obtain⟨n,a5⟩:=eX p.length;obtain⟨C,N⟩:=eX (w.alloc (.cells #[.slice A n c] 24));have a7:ac w C:=by rw[N];exact(aa.refl _ w).alloc _
 obtain⟨c3,a2⟩:=eX w.heap.size;have X:ae C c3 24 #[.slice A n c]:=by rw[N,a2];exact bN
 have T:=X.I 0;simp at T;obtain⟨q,Z⟩:=eX (ig p);rw[<-Z];have m:=hD Z;have bf:=hD (av.U a7);have bq:=hD X;have K:=hD a7;have u:=hD (aI a5 (aI b1 b3));have bo:=hD a2;have al:=hD N.symm;have bp:=hD Em;unfold aP;rw[<-a5];clear av b1 b3 a5 N a7 a2 X Z;go_enter Tryz.func70,Tryz.ntmps70;go_upto_region 1 with fail;rw[al.O,<-bo.O];clear al
 by_cases Y:16<n
 ·have c6:decide ((16:Int)<(n:Int))=true:=yg (by omega)
  have d:Hd (q=false):=hD (by rw[m.O];unfold ig;rw[yd (by rw[<-u.O.1];omega)];rfl);clear Y;go_wp2_with fail;go_ret;exact⟨by rw[d.O];rfl,K.O⟩
 have c6:decide ((16:Int)<(n:Int))=false:=yd (by omega);have a9:Hd (n<=16):=hD (yA Y);clear Y;go_wp2_with fail
 go_loopw [3] (λi wr=>∃k:Nat,k<=n/\i=.int .i64 k/\(p.take k).any fZ=false/\ac C wr) (λi _=>n-(intOf i).toNat)
 case atStart=>exact⟨0,yx _,rfl,rfl,oR⟩
 case round=>
  obtain⟨k,cb,rfl,E,l⟩:=hrel;have b9:=(l.J bq.O nF).I 0;simp at b9
  by_cases g:k<n
  ·have cv:(0:Int)<=(k:Int):=dB k
   have c8:(k:Int)<(n:Int):=cy g;have a4:k<p.length:=by rw[<-u.O.1];exact g
   have a3:p[k]?=some p[k]:=gG a4;have b2:=u.O.2.2 _ (yN a4);generalize p[k] =x at*;obtain⟨b,cB,B,ar,c4,cq,cr,ba,aw⟩:=(bf.O.U l).at_ a3;subst c4;obtain⟨a,R⟩:=eX x.ops.length;rw[<-R] at ba;have b6:wrap64 ((k:Int)+1)=(k:Int)+1:=cG g (lT a9.O (by decide));obtain⟨D,P⟩:=eX (wr.alloc (.cells #[.int .i64 x.args,.int .i64 x.rg,.slice B a ar] 99));have S:ac wr D:=by rw[P];exact oR.alloc _
   obtain⟨c2,a1⟩:=eX wr.heap.size;have W:ae D c2 99 #[.int .i64 x.args,.int .i64 x.rg,.slice B a ar]:=by rw[P,a1];exact bN
   obtain⟨d1,d2,d3⟩:=W.gE3;have bv:=hD (me x.args);have bx:=hD (me x.rg);have b4:fZ x=(!(co x.args&&co x.rg)||decide (64<a)||x.ops.any (λo=>!cF o)):=by unfold fZ;rw[R]
   generalize co x.args=ch at*;generalize co x.rg=ci at*;have y:=hD b4;have bb:=hD W;have H:=hD (aI R b2);have t:=hD a3;have br:=hD E;have bk:=hD (aw.U S);have an:Hd (ac C D):=hD (l.trans S);have z:Hd (ac w D):=hD (K.O.trans (l.trans S));have bn:=hD a1;have am:=hD P.symm;clear a3 E l aw P S a1 W a4 R b2 b4;go_upto_region 7 with fail;rw[am.O,<-bn.O];clear am;clear cq cr ba b9;go_wp2_with fail;refine(bv.O _).mono ?_;rintro e d4 ⟨rfl,cd⟩;subst cd
   cases ch
   ·have d:Hd (q=false):=hD (by rw[m.O];exact kL t.O (by rw[y.O];rfl))
    go_wp2_with fail;go_ret;exact⟨by rw[d.O];rfl,z.O⟩
   go_wp2_with fail;refine(bx.O _).mono ?_;rintro e d5 ⟨rfl,ce⟩;subst ce
   cases ci
   ·have d:Hd (q=false):=hD (by rw[m.O];exact kL t.O (by rw[y.O];rfl))
    go_wp2_with fail;go_ret;exact⟨by rw[d.O];rfl,z.O⟩
   by_cases L:64<a
   ·have c7:decide ((64:Int)<(a:Int))=true:=yg (by omega)
    have d:Hd (q=false):=hD (by rw[m.O];exact kL t.O (by rw[y.O,yg L];rfl));clear L;go_wp2_with fail;go_ret;exact⟨by rw[d.O];rfl,z.O⟩
   have c7:decide ((64:Int)<(a:Int))=false:=yd (by omega);have bm:=hD L;clear L;go_wp2_with fail;obtain⟨d7,cf⟩:=eX wr;subst cf
   go_loopw [5] (λi wr2=>∃j:Nat,j<=a/\i=.int .i64 j/\(x.ops.take j).any (λo=>!cF o)=false/\ac D wr2) (λi _=>a-(intOf i).toNat)
   case atStart=>exact⟨0,yx _,rfl,rfl,oR⟩
   case round=>
    obtain⟨j,c9,rfl,G,s⟩:=hrel;have b8:=(s.J bb.O nF).I 2;simp at b8
    by_cases f:j<a
    ·have cw:(0:Int)<=(j:Int):=dB j
     have cg:(j:Int)<(a:Int):=cy f;have az:j<x.ops.length:=by rw[<-H.O.1];exact f
     have a6:x.ops[j]?=some x.ops[j]:=gG az;have b5:wrap64 ((j:Int)+1)=(j:Int)+1:=cG f (by rw[H.O.1];exact H.O.2);generalize x.ops[j] =o at*;obtain⟨cs,d0,c5,r⟩:=(bk.O.U s).at_ a6;subst c5;have T:=r 0 _ rfl;have ck:=r 1 _ rfl;have cm:=r 2 _ rfl;have cn:=r 3 _ rfl;have cp:=r 4 _ rfl;rw[yW] at T;have Q:=bp.O o wr;obtain⟨c1,a0⟩:=eX (cF o);rw[<-a0] at Q;unfold cR at Q;have a8:=hD Q;have ab:=hD a0;have ai:=hD a6;have bt:=hD G;have v:=hD s;clear Q a0 a6 G s r az;go_wp2_with fail;refine a8.O.mono ?_;rintro e c0 ⟨rfl,b7⟩;have ad:=hD (v.O.trans b7);clear b7 T ck cm cn cp b8 a8
     cases c1
     ·have d:Hd (q=false):=hD (by
       rw[m.O];refine kL t.O ?_;rw[y.O];have:x.ops.any (λo=>!cF o)=true:=zT.2 ⟨o,yh ai.O,by rw[<-ab.O];rfl⟩;rw[this];simp)
      have z:Hd (ac w c0):=hD (K.O.trans (an.O.trans ad.O));go_wp2_with fail;go_ret;exact⟨by rw[d.O];rfl,z.O⟩
     ·have V:=hD (sV (λo=>!cF o) ai.O bt.O (by rw[<-ab.O];rfl))
      go_wp2_with fail;go_roundw
      case rel=>exact⟨j+1,f,by first|exact cK j|exact cH b5,V.O,ad.O⟩
      case measure=>first|exact au rfl f|exact au b5 f
    ·have cg:¬(j:Int)<(a:Int):=λe=>f (yB.1 e)
     have aE:j=a:=yT c9 (yA f);rw[aE,H.O.1,zr] at G;have V:Hd ((p.take (k+1)).any fZ=false):=hD (sV fZ t.O br.O (by rw[y.O,G,yd bm.O];rfl));have v:Hd (ac C wr):=hD (an.O.trans s);clear G s aE;go_wp2_with fail;go_roundw
     case rel=>exact⟨k+1,g,by first|exact cK k|exact cH b6,V.O,v.O⟩
     case measure=>first|exact au rfl g|exact au b6 g
  ·have c8:¬(k:Int)<(n:Int):=λe=>g (yB.1 e)
   have b0:k=n:=yT cb (yA g);rw[b0,u.O.1,zr] at E;have bz:Hd (q=true):=hD (by rw[m.O];unfold ig;rw[E,yg (by rw[<-u.O.1];exact a9.O)];rfl);have v:Hd (ac w wr):=hD (K.O.trans l);clear E l b0;go_wp2_with fail;go_ret;exact⟨by rw[bz.O];rfl,v.O⟩
theorem eS{r a:Int}:ep r [a] = !decide (r<=a):=by simp[ep]
theorem nV{r a b:Int}:ep r [a,b] = !(decide (r<=a)||decide (r<=b)):=by simp[ep]
theorem kK{r a b c:Int}:ep r [a,b,c] = !(decide (r<=a)||(decide (r<=b)||decide (r<=c))):=by simp[ep]
theorem Br(p:List ah)(x:ah)(o:bI)(A B:Option Addr)(c Y:Nat)(F:Nat->Prop)(w:World)(b2:fN w F A p)
 (l:1<=o.k/\o.k<=14) (t:0<=o.a/\o.a<=16) (b4:∀y∈p,0<=y.args/\y.args<=16):
 Calls Tryz.prog 71 #[aP p A c,rX x B Y,cR o] w λm w'=>m=.returned (.int .i64 (eD p x o))/\ac w w':=by
 obtain⟨q,ab⟩:=eX (eD p x o);rw[<-ab];obtain⟨n,ai⟩:=eX p.length;obtain⟨D,ad⟩:=eX x.ops.length;obtain⟨X,T⟩:=eX (w.alloc (.cells #[.slice A n c] 24));obtain⟨W,a0⟩:=eX (X.alloc (.cells #[.int .i64 x.args,.int .i64 x.rg,.slice B D Y] 99));obtain⟨P,a5⟩:=eX (W.alloc (.cells #[.int .u8 o.k,.int .i64 o.d,.int .i64 o.a,.int .i64 o.b,.int .i64 o.n] 106));have b6:ac w X:=by rw[T];exact(aa.refl _ w).alloc _
 have an:ac X W:=by rw[a0];exact oR.alloc _
 have a8:ac W P:=by rw[a5];exact oR.alloc _
 have am:ac w P:=(b6.trans an).trans a8;obtain⟨Z,a1⟩:=eX w.heap.size;have aw:ae P Z 24 #[.slice A n c]:=a8.J (an.J (by rw[T,a1];exact bN) nF) nF;have a2:ae P (Z+1) 99 #[.int .i64 x.args,.int .i64 x.rg,.slice B D Y]:=a8.J (by rw[a0];have:=ae.new X 99 #[.int .i64 x.args,.int .i64 x.rg,.slice B D Y];rw[show X.heap.size=Z+1 by rw[T,a1];simp] at this;exact this) nF;have Q:ae P (Z+1+1) 106 #[.int .u8 o.k,.int .i64 o.d,.int .i64 o.a,.int .i64 o.b,.int .i64 o.n]:=by rw[a5];have:=ae.new W 106 #[.int .u8 o.k,.int .i64 o.d,.int .i64 o.a,.int .i64 o.b,.int .i64 o.n];rw[show W.heap.size=Z+1+1 by rw[a0,T,a1];simp] at this;exact this
 have b7:=aw.I 0;have bk:=a2.I 0;have bm:=a2.I 1;have bn:=a2.I 2;have H:=Q.I 0;have bo:=Q.I 1;have bp:=Q.I 2;have bq:=Q.I 3;have b8:=Q.I 4;simp at b7 bk bm bn H bo bp bq b8;have av:=hD (b2.U am);have s:=hD am;have V:=hD (aI ai ad);have r:=hD a1;have ar:=hD (aI t b4);have z:=hD ab;have e:=hD (ug o.k);have g:=hD (show(((w.alloc (.cells #[.slice A n c] 24)).alloc (.cells #[.int .i64 x.args,.int .i64 x.rg,.slice B D Y] 99)).alloc (.cells #[.int .u8 o.k,.int .i64 o.d,.int .i64 o.a,.int .i64 o.b,.int .i64 o.n] 106))=P by rw[a5,a0,T]);unfold aP rX cR;rw[<-ai,<-ad];clear b2 b4 t T a0 a5 b6 an a8 am aw a2 Q a1 ai ad ab;have bb:o.k=1\/o.k=2\/o.k=14\/o.k=13\/o.k=10\/o.k=11\/o.k=12\/(3<=o.k/\o.k<=9):=by omega
 clear l
 rcases bb with l|l|l|l|l|l|l|l
 ·rw[l] at H e
  have f:=z;unfold eD at f;rw[l] at f;clear l z
  by_cases u:x.rg<=o.d
  ·have N:decide (x.rg<=o.d)=true:=yg u
   have i:Hd (q=111):=hD (by rw[f.O];simp[bg,eS,u]);go_enter Tryz.func71,Tryz.ntmps71;go_upto_region 1 with fail;rw[g.O,<-r.O];clear g;go_wp2_with fail;refine(e.O _).mono ?_;rintro m wh ⟨rfl,j⟩;subst j;clear e;go_wp2_with fail;go_ret;exact⟨by rw[i.O];rfl,s.O⟩
  ·have N:decide (x.rg<=o.d)=false:=yd u
   have i:Hd (q=0):=hD (by rw[f.O];simp[bg,eS,u]);go_enter Tryz.func71,Tryz.ntmps71;go_upto_region 1 with fail;rw[g.O,<-r.O];clear g;go_wp2_with fail;refine(e.O _).mono ?_;rintro m wh ⟨rfl,j⟩;subst j;clear e;go_wp2_with fail;go_ret;exact⟨by rw[i.O];rfl,s.O⟩
 ·rw[l] at H e
  have f:=z;unfold eD at f;rw[l] at f;clear l z
  by_cases u:x.rg<=o.d
  ·have N:decide (x.rg<=o.d)=true:=yg u
   have i:Hd (q=111):=hD (by rw[f.O];simp[bg,nV,u]);go_enter Tryz.func71,Tryz.ntmps71;go_upto_region 1 with fail;rw[g.O,<-r.O];clear g;go_wp2_with fail;refine(e.O _).mono ?_;rintro m wh ⟨rfl,j⟩;subst j;clear e;go_wp2_with fail;go_ret;exact⟨by rw[i.O];rfl,s.O⟩
  ·have N:decide (x.rg<=o.d)=false:=yd u
   by_cases t:x.rg<=o.a
   ·have L:decide (x.rg<=o.a)=true:=yg t
    have i:Hd (q=111):=hD (by rw[f.O];simp[bg,nV,u,t]);go_enter Tryz.func71,Tryz.ntmps71;go_upto_region 1 with fail;rw[g.O,<-r.O];clear g;go_wp2_with fail;refine(e.O _).mono ?_;rintro m wh ⟨rfl,j⟩;subst j;clear e;go_wp2_with fail;go_ret;exact⟨by rw[i.O];rfl,s.O⟩
   ·have L:decide (x.rg<=o.a)=false:=yd t
    have i:Hd (q=0):=hD (by rw[f.O];simp[bg,nV,u,t]);go_enter Tryz.func71,Tryz.ntmps71;go_upto_region 1 with fail;rw[g.O,<-r.O];clear g;go_wp2_with fail;refine(e.O _).mono ?_;rintro m wh ⟨rfl,j⟩;subst j;clear e;go_wp2_with fail;go_ret;exact⟨by rw[i.O];rfl,s.O⟩
 ·rw[l] at H e
  have f:=z;unfold eD at f;rw[l] at f;clear l z
  by_cases t:x.rg<=o.a
  ·have L:decide (x.rg<=o.a)=true:=yg t
   have i:Hd (q=111):=hD (by rw[f.O];simp[bg,eS,t]);go_enter Tryz.func71,Tryz.ntmps71;go_upto_region 1 with fail;rw[g.O,<-r.O];clear g;go_wp2_with fail;refine(e.O _).mono ?_;rintro m wh ⟨rfl,j⟩;subst j;clear e;go_wp2_with fail;go_ret;exact⟨by rw[i.O];rfl,s.O⟩
  ·have L:decide (x.rg<=o.a)=false:=yd t
   have i:Hd (q=0):=hD (by rw[f.O];simp[bg,eS,t]);go_enter Tryz.func71,Tryz.ntmps71;go_upto_region 1 with fail;rw[g.O,<-r.O];clear g;go_wp2_with fail;refine(e.O _).mono ?_;rintro m wh ⟨rfl,j⟩;subst j;clear e;go_wp2_with fail;go_ret;exact⟨by rw[i.O];rfl,s.O⟩
 ·rw[l] at H e
  have f:=z;unfold eD at f;rw[l] at f;clear l z;have i:Hd (q=0):=hD (by rw[f.O];simp);go_enter Tryz.func71,Tryz.ntmps71;go_upto_region 1 with fail;rw[g.O,<-r.O];clear g;go_wp2_with fail;refine(e.O _).mono ?_;rintro m wh ⟨rfl,j⟩;subst j;clear e;go_wp2_with fail;go_ret;exact⟨by rw[i.O];rfl,s.O⟩
 ·rw[l] at H e
  have f:=z;unfold eD at f;rw[l] at f;clear l z;rw[<-V.O.2] at f
  by_cases E:o.n<0
  ·have R:decide (o.n<0)=true:=yg E
   have v:¬(0<=o.n):=by omega
   have i:Hd (q=112):=hD (by rw[f.O];simp[bg,v]);go_enter Tryz.func71,Tryz.ntmps71;go_upto_region 1 with fail;rw[g.O,<-r.O];clear g;go_wp2_with fail;refine(e.O _).mono ?_;rintro m wh ⟨rfl,j⟩;subst j;clear e;go_wp2_with fail;go_ret;exact⟨by rw[i.O];rfl,s.O⟩
  ·have R:decide (o.n<0)=false:=yd E
   have v:0<=o.n:=by omega
   by_cases G:(D:Int)<=o.n
   ·have S:decide ((D:Int)<=o.n)=true:=yg G
    have C:¬(o.n<(D:Int)):=by omega
    have i:Hd (q=112):=hD (by rw[f.O];simp[bg,v,C]);go_enter Tryz.func71,Tryz.ntmps71;go_upto_region 1 with fail;rw[g.O,<-r.O];clear g;go_wp2_with fail;refine(e.O _).mono ?_;rintro m wh ⟨rfl,j⟩;subst j;clear e;go_wp2_with fail;go_ret;exact⟨by rw[i.O];rfl,s.O⟩
   ·have S:decide ((D:Int)<=o.n)=false:=yd G
    have C:o.n<(D:Int):=by omega
    have i:Hd (q=0):=hD (by rw[f.O];simp[bg,v,C]);go_enter Tryz.func71,Tryz.ntmps71;go_upto_region 1 with fail;rw[g.O,<-r.O];clear g;go_wp2_with fail;refine(e.O _).mono ?_;rintro m wh ⟨rfl,j⟩;subst j;clear e;go_wp2_with fail;go_ret;exact⟨by rw[i.O];rfl,s.O⟩
 ·rw[l] at H e
  have f:=z;unfold eD at f;rw[l] at f;clear l z;rw[<-V.O.2] at f
  by_cases t:x.rg<=o.a
  ·have L:decide (x.rg<=o.a)=true:=yg t
   have i:Hd (q=111):=hD (by rw[f.O];simp[bg,eS,t]);go_enter Tryz.func71,Tryz.ntmps71;go_upto_region 1 with fail;rw[g.O,<-r.O];clear g;go_wp2_with fail;refine(e.O _).mono ?_;rintro m wh ⟨rfl,j⟩;subst j;clear e;go_wp2_with fail;go_ret;exact⟨by rw[i.O];rfl,s.O⟩
  ·have L:decide (x.rg<=o.a)=false:=yd t
   by_cases E:o.n<0
   ·have R:decide (o.n<0)=true:=yg E
    have v:¬(0<=o.n):=by omega
    have i:Hd (q=112):=hD (by rw[f.O];simp[bg,eS,t,v]);go_enter Tryz.func71,Tryz.ntmps71;go_upto_region 1 with fail;rw[g.O,<-r.O];clear g;go_wp2_with fail;refine(e.O _).mono ?_;rintro m wh ⟨rfl,j⟩;subst j;clear e;go_wp2_with fail;go_ret;exact⟨by rw[i.O];rfl,s.O⟩
   ·have R:decide (o.n<0)=false:=yd E
    have v:0<=o.n:=by omega
    by_cases G:(D:Int)<=o.n
    ·have S:decide ((D:Int)<=o.n)=true:=yg G
     have C:¬(o.n<(D:Int)):=by omega
     have i:Hd (q=112):=hD (by rw[f.O];simp[bg,eS,t,v,C]);go_enter Tryz.func71,Tryz.ntmps71;go_upto_region 1 with fail;rw[g.O,<-r.O];clear g;go_wp2_with fail;refine(e.O _).mono ?_;rintro m wh ⟨rfl,j⟩;subst j;clear e;go_wp2_with fail;go_ret;exact⟨by rw[i.O];rfl,s.O⟩
    ·have S:decide ((D:Int)<=o.n)=false:=yd G
     have C:o.n<(D:Int):=by omega
     have i:Hd (q=0):=hD (by rw[f.O];simp[bg,eS,t,v,C]);go_enter Tryz.func71,Tryz.ntmps71;go_upto_region 1 with fail;rw[g.O,<-r.O];clear g;go_wp2_with fail;refine(e.O _).mono ?_;rintro m wh ⟨rfl,j⟩;subst j;clear e;go_wp2_with fail;go_ret;exact⟨by rw[i.O];rfl,s.O⟩
 ·rw[l] at H e
  have f:=z;unfold eD at f;rw[l] at f;clear l z;rw[<-V.O.1] at f
  by_cases u:x.rg<=o.d
  ·have N:decide (x.rg<=o.d)=true:=yg u
   have i:Hd (q=111):=hD (by rw[f.O];simp[bg,eS,u]);go_enter Tryz.func71,Tryz.ntmps71;go_upto_region 1 with fail;rw[g.O,<-r.O];clear g;go_wp2_with fail;refine(e.O _).mono ?_;rintro m wh ⟨rfl,j⟩;subst j;clear e;go_wp2_with fail;go_ret;exact⟨by rw[i.O];rfl,s.O⟩
  ·have N:decide (x.rg<=o.d)=false:=yd u
   by_cases E:o.n<0
   ·have R:decide (o.n<0)=true:=yg E
    have v:¬(0<=o.n):=by omega
    have i:Hd (q=112):=hD (by rw[f.O];simp[bg,eS,u,v]);go_enter Tryz.func71,Tryz.ntmps71;go_upto_region 1 with fail;rw[g.O,<-r.O];clear g;go_wp2_with fail;refine(e.O _).mono ?_;rintro m wh ⟨rfl,j⟩;subst j;clear e;go_wp2_with fail;go_ret;exact⟨by rw[i.O];rfl,s.O⟩
   ·have R:decide (o.n<0)=false:=yd E
    have v:0<=o.n:=by omega
    by_cases G:(n:Int)<=o.n
    ·have S:decide ((n:Int)<=o.n)=true:=yg G
     have C:¬(o.n<(n:Int)):=by omega
     have i:Hd (q=112):=hD (by rw[f.O];simp[bg,eS,u,v,C]);go_enter Tryz.func71,Tryz.ntmps71;go_upto_region 1 with fail;rw[g.O,<-r.O];clear g;go_wp2_with fail;refine(e.O _).mono ?_;rintro m wh ⟨rfl,j⟩;subst j;clear e;go_wp2_with fail;go_ret;exact⟨by rw[i.O];rfl,s.O⟩
    ·have S:decide ((n:Int)<=o.n)=false:=yd G
     have C:o.n<(n:Int):=by omega
     obtain⟨n',a7⟩ :∃n':Nat,o.n=(n':Int):=ym v;have b5:p[n']?=some (bG p o.n):=by rw[<-(gk v (by rw[<-V.O.1];exact C)).2,a7,yo]
     have al:=ar.O.2 (bG p o.n) (gk v (by rw[<-V.O.1];exact C)).1;obtain⟨b,c7,br,bt,b3,c1,_,_,_⟩:=av.O.at_ b5;have bz:(0:Int)<=(n':Int):=dB n';have c0:(n':Int)<(n:Int):=by rw[<-a7];exact C
     have a9:Hd (q=if (bG p o.n).args=0\/o.a+(bG p o.n).args<=x.rg then 0 else 111):=hD (by rw[f.O];simp[bg,eS,u,v,C];split<;>split<;>first|rfl|(exfalso;omega));generalize (bG p o.n).args=K at*;rw[a7] at b8 R S;rw[b3] at b7;clear b5 b3 a7 E G v C f av
     by_cases a3:K=0
     ·subst a3
      have i:Hd (q=0):=hD (by rw[a9.O,yf (.inl rfl)]);go_enter Tryz.func71,Tryz.ntmps71;go_upto_region 1 with fail;rw[g.O,<-r.O];clear g;go_wp2_with fail;refine(e.O _).mono ?_;rintro m wh ⟨rfl,j⟩;subst j;clear e;go_wp2_with fail;go_ret;exact⟨by rw[i.O];rfl,s.O⟩
     ·have bx:decide (0<K)=true:=yg (by omega)
      have bf:wrap64 (o.a+K)=o.a+K:=vu ar.O.1 al;have bv:=(aR (o.a+K)).trans bf
      by_cases a4:o.a+K<=x.rg
      ·have ba:decide (x.rg<o.a+K)=false:=yd (by omega)
       have i:Hd (q=0):=hD (by rw[a9.O,yf (.inr a4)]);clear a3 a4 al;go_enter Tryz.func71,Tryz.ntmps71;go_upto_region 1 with fail;rw[g.O,<-r.O];clear g;go_wp2_with fail;refine(e.O _).mono ?_;rintro m wh ⟨rfl,j⟩;subst j;clear e;go_wp2_with fail;go_ret;exact⟨by rw[i.O];rfl,s.O⟩
      ·have ba:decide (x.rg<o.a+K)=true:=yg (by omega)
       have i:Hd (q=111):=hD (by rw[a9.O,yb (λm=>m.elim a3 a4)]);clear a3 a4 al;go_enter Tryz.func71,Tryz.ntmps71;go_upto_region 1 with fail;rw[g.O,<-r.O];clear g;go_wp2_with fail;refine(e.O _).mono ?_;rintro m wh ⟨rfl,j⟩;subst j;clear e;go_wp2_with fail;go_ret;exact⟨by rw[i.O];rfl,s.O⟩
 ·have c3:(o.k==1)=false:=bF (by omega)
  have c4:(o.k==10)=false:=bF (by omega);have c5:(o.k==11)=false:=bF (by omega);have c6:(o.k==12)=false:=bF (by omega);have c2:¬o.k=12:=by omega
  have b0:dS o.k=true:=yg (by omega);have az:mZ o.k=true:=yg (by omega);have aE:na o.k=true:=yg (by omega);have b1:nc o.k=false:=yd (by omega);rw[b0,az,aE,b1] at e;have f:=z;unfold eD at f;rw[yb (by omega),yb (by omega),yb (by omega),yb (by omega),yb (by omega),yb (by omega),yb (by omega)] at f;clear l z b0 az aE b1
  by_cases u:x.rg<=o.d
  ·have N:decide (x.rg<=o.d)=true:=yg u
   have i:Hd (q=111):=hD (by rw[f.O];simp[bg,kK,u]);go_enter Tryz.func71,Tryz.ntmps71;go_upto_region 1 with fail;rw[g.O,<-r.O];clear g;go_wp2_with fail;refine(e.O _).mono ?_;rintro m wh ⟨rfl,j⟩;subst j;clear e;go_wp2_with fail;go_ret;exact⟨by rw[i.O];rfl,s.O⟩
  ·have N:decide (x.rg<=o.d)=false:=yd u
   by_cases t:x.rg<=o.a
   ·have L:decide (x.rg<=o.a)=true:=yg t
    have i:Hd (q=111):=hD (by rw[f.O];simp[bg,kK,u,t]);go_enter Tryz.func71,Tryz.ntmps71;go_upto_region 1 with fail;rw[g.O,<-r.O];clear g;go_wp2_with fail;refine(e.O _).mono ?_;rintro m wh ⟨rfl,j⟩;subst j;clear e;go_wp2_with fail;go_ret;exact⟨by rw[i.O];rfl,s.O⟩
   ·have L:decide (x.rg<=o.a)=false:=yd t
    by_cases a6:x.rg<=o.b
    ·have b9:decide (x.rg<=o.b)=true:=yg a6
     have i:Hd (q=111):=hD (by rw[f.O];simp[bg,kK,u,t,a6]);go_enter Tryz.func71,Tryz.ntmps71;go_upto_region 1 with fail;rw[g.O,<-r.O];clear g;go_wp2_with fail;refine(e.O _).mono ?_;rintro m wh ⟨rfl,j⟩;subst j;clear e;go_wp2_with fail;go_ret;exact⟨by rw[i.O];rfl,s.O⟩
    ·have b9:decide (x.rg<=o.b)=false:=yd a6
     have i:Hd (q=0):=hD (by rw[f.O];simp[bg,kK,u,t,a6]);go_enter Tryz.func71,Tryz.ntmps71;go_upto_region 1 with fail;rw[g.O,<-r.O];clear g;go_wp2_with fail;refine(e.O _).mono ?_;rintro m wh ⟨rfl,j⟩;subst j;clear e;go_wp2_with fail;go_ret;exact⟨by rw[i.O];rfl,s.O⟩
theorem wQ(p:List ah)(A:Option Addr)(c:Nat)(F:Nat->Prop)(w:World)(b0:fN w F A p)(ba:p.length<=1000)(bf:∀x∈p,x.ops.length<=1000):
 Calls Tryz.prog 34 #[aP p A c] w λf w'=>sP w w' p f:=by
 obtain⟨n,a5⟩:=eX p.length;obtain⟨R,a0⟩:=eX (w.alloc (.cells #[.slice A n c] 24));have ab:ac w R:=by rw[a0];exact(aa.refl _ w).alloc _
 obtain⟨d9,b7⟩:=eX w.heap.size;have az:ae R d9 24 #[.slice A n c]:=by rw[a0,b7];exact bN
 have m:=az.I 0;simp at m;obtain⟨c5,b5⟩:=eX (ig p);have X:=hD b5
 have bt:Hd (Calls Tryz.prog 70 #[.agg #[.slice A n c]] R λf w'=>f=.returned (.bool c5)/\ac R w'):=hD (by
  have:=wP p A c F R (b0.U ab) ba bf;unfold aP at this;rw[<-a5,<-b5] at this;exact this)
 have bo:=hD (b0.U ab);have bx:=hD az;have cB:=hD ab;have t:=hD (aI a5 (aI ba bf));have cw:=hD b7;have bz:=hD a0.symm;unfold aP;rw[<-a5];clear b0 ba bf a5 a0 ab b7 az b5;go_enter Tryz.func34,Tryz.ntmps34;go_upto_region 1 with fail;rw[bz.O,<-cw.O];clear bz;go_wp2_with fail;refine bt.O.mono ?_;rintro f av ⟨rfl,ad⟩;have an:=hD (ad.J bx.O nF);have bp:=hD (bo.O.U ad);have E:=hD (cB.O.trans ad);have m:=an.O.I 0;simp at m;clear ad bt bx bo
 cases c5
 ·have d:Hd (bU p=8):=hD (by unfold bU;rw[yf X.O.symm])
  have e:=E;go_wp2_with fail
  go_ret3
  refine⟨0,0,?_,e.O⟩;rw[d.O];rfl
 by_cases a6:n=0
 ·subst a6
  have d:Hd (bU p=110):=hD (by unfold bU;rw[yb (by rw[<-X.O];simp),yf (yr t.O.1.symm)]);have e:=E;go_wp2_with fail
  go_ret3
  refine⟨0,0,?_,e.O⟩;rw[d.O];rfl
 have eb:((n:Int)==0)=false:=bF (by omega);have Q:Hd (bU p=dM p p):=hD (by unfold bU;rw[yb (by rw[<-X.O];simp),yb (λf=>a6 (by rw[t.O.1,f];rfl))]);have am:=hD (mW X.O.symm);have e7:=hD a6;clear a6;go_wp2_with fail
 go_loopw [5] (λi wr=>∃k:Nat,k<=n/\i=.int .i64 k/\dM p (p.drop k)=dM p p/\ac av wr) (λi _=>n-(intOf i).toNat)
 case atStart=>exact⟨0,yx _,rfl,rfl,oR⟩
 case round=>
  obtain⟨k,dn,rfl,V,P⟩:=hrel;have cm:=(P.J an.O nF).I 0;simp at cm
  by_cases g:k<n
  ·have ea:(0:Int)<=(k:Int):=dB k
   have dk:(k:Int)<(n:Int):=cy g;have a3:k<p.length:=by rw[<-t.O.1];exact g
   have b9:p[k]?=some p[k]:=gG a3;have bb:=yN a3;have c8:=yM a3;generalize p[k] =x at*;obtain⟨b,dw,B,aE,da,e4,e5,cn,c6⟩:=(bp.O.U P).at_ b9;subst da;obtain⟨r,a4⟩:=eX x.ops.length;rw[<-a4] at cn;have a8:wrap64 ((k:Int)+1)=(k:Int)+1:=cG g (by rw[t.O.1];exact t.O.2.1);obtain⟨H,a1⟩:=eX (wr.alloc (.cells #[.int .i64 x.args,.int .i64 x.rg,.slice B r aE] 99));have bm:ac wr H:=by rw[a1];exact oR.alloc _
   obtain⟨d8,b6⟩:=eX wr.heap.size;have aw:ae H d8 99 #[.int .i64 x.args,.int .i64 x.rg,.slice B r aE]:=by rw[a1,b6];exact bN
   obtain⟨ek,el,em⟩:=aw.gE3;have cp:=hD aw;have cs:=hD (am.O x bb);have C:=hD a4;have e6:=hD b9;have z:=hD c8;have D:=hD V;have bq:=hD (c6.U bm);have G:Hd (ac av H):=hD (P.trans bm);have cv:=hD b6;have c0:=hD a1.symm;have br:Hd (r<=64):=hD (by rw[a4];exact(am.O x bb).2.2.1);clear b9 V P c6 a1 bm b6 aw a3 a4 c8 bb;go_upto_region 9 with fail;rw[c0.O,<-cv.O];clear c0 e4 e5 cn cm
   by_cases a2:x.rg<x.args
   ·have dd:decide (x.rg<x.args)=true:=yg a2
    have c7:mw x=110:=by unfold mw;rw[yd (by omega)];rfl
    have d:Hd (bU p=110):=hD (by
     have S:eK p x 0=110:=by rw[ru,c7]
     have a:be p x=110:=by rw[oT (k:=0) (by rw[S];decide),S]
     rw[Q.O,<-D.O,z.O,fA (by rw[a];decide),a])
    have e:Hd (ac w H):=hD (E.O.trans G.O);clear a2 c7;go_wp2_with fail
    go_ret3
    refine⟨(k:Int),0,?_,e.O⟩;rw[d.O];rfl
   have dd:decide (x.rg<x.args)=false:=yd a2;have cr:Hd (mw x=0):=hD (by unfold mw;rw[yg (by omega)];rfl);clear a2;go_wp2_with fail;obtain⟨en,dp⟩:=eX wr;subst dp
   go_loopw [7] (λi wr2=>∃j:Nat,j<=r/\i=.int .i64 j/\eK p x j=0/\ac H wr2) (λi _=>r-(intOf i).toNat)
   case atStart=>exact⟨0,yx _,rfl,by rw[ru];exact cr.O,oR⟩
   case round=>
    obtain⟨j,dl,rfl,a7,l⟩:=hrel;have b3:=l.J cp.O nF;obtain⟨ci,ck,dz⟩:=b3.gE3;have bn:=((G.O.trans l).J an.O nF).I 0;simp at bn
    by_cases s:j<r
    ·have ef:(0:Int)<=(j:Int):=dB j
     have dr:(j:Int)<(r:Int):=cy s;have b8:j<x.ops.length:=by rw[<-C.O];exact s
     have bk:x.ops[j]?=some x.ops[j]:=gG b8;have c9:=cs.O.2.2.2 x.ops[j] (yN b8);have ce:wrap64 ((j:Int)+1)=(j:Int)+1:=cG s (lT br.O (by decide));generalize x.ops[j] =o at*;obtain⟨c1,ch,b1,q⟩:=(bq.O.U l).at_ bk;subst b1;have m:=q 0 _ rfl;have e0:=q 1 _ rfl;have e1:=q 2 _ rfl;have e2:=q 3 _ rfl;have e3:=q 4 _ rfl;rw[yW] at m;obtain⟨c3,d5,c4,d7⟩:=lQ c9;have L:=Br p x o (some ⟨b,dw,none⟩) (some ⟨c1,ch,none⟩) c aE F wr.drew (((bp.O.U G.O).U l).U oR.drew) c3 c4 (λy dq=>(am.O y dq).1);rw[<-zu6 bk a7] at L;obtain⟨Z,b4⟩:=eX (eK p x (j+1));rw[<-b4] at L;unfold aP rX cR at L;rw[<-t.O.1,<-C.O] at L;have ai:=hD L;have al:=hD b4;have Y:=hD l;clear L b4 bk a7 l q b8 c9 c3 d5 c4 d7 b3;go_wp2_with fail
     go_still_tail 7,(by kernel_rfl)
     change wpList _ _ _ _ _ wr.drew;obtain⟨d1,b2⟩:=eX wr.drew;rw[<-b2] at ai ⊢;have d0:Hd (ac H d1):=hD (by rw[b2];exact Y.O.drew);clear b2 m e0 e1 e2 e3 ci ck dz bn;go_wp2_with fail;refine ai.O.mono ?_;rintro f d2 ⟨rfl,cg⟩;have bv:=hD (d0.O.trans cg);clear cg ai
     by_cases T:Z=0
     ·subst T
      go_wp2_with fail;go_roundw
      case rel=>exact⟨j+1,s,by first|exact cK j|exact cH ce,al.O.symm,bv.O⟩
      case measure=>first|exact au rfl s|exact au ce s
     ·have d:Hd (bU p=Z):=hD (by
       have S:eK p x (j+1)≠0:=by rw[<-al.O];exact T
       have a:=oT S;rw[Q.O,<-D.O,z.O,fA (by rw[a];exact S),a,al.O])
      have e:Hd (ac w d2):=hD (E.O.trans (G.O.trans bv.O));have ec:(Z==0)=false:=bF T;have ee:(Z !=0)=true:=bT T;clear T;go_wp2_with fail
      go_ret3
      refine⟨(k:Int),(j:Int),?_,e.O⟩;rw[d.O];rfl
    ·have dr:¬(j:Int)<(r:Int):=λf=>s (yB.1 f)
     have dm:j=r:=yT dl (yA s);subst dm;have W:Hd (∀b,im x=b->be p x=bg 0 b 113):=hD λb db=>by unfold be;rw[<-C.O,a7,db]
     have Y:Hd (ac av wr):=hD (G.O.trans l);have cq:=hD (bq.O.U l);have e:Hd (ac w wr):=hD (E.O.trans (G.O.trans l));clear a7 l ci ck bn b3
     by_cases v:j=0
     ·have cf:x.ops= []:=yr (by rw[<-C.O];exact v)
      have d:Hd (bU p=113):=hD (by
       have a:be p x=113:=W.O false (by unfold im;rw[cf];rfl);rw[Q.O,<-D.O,z.O,fA (by rw[a];decide),a])
      subst v;clear cf;go_wp2_with fail
      go_ret3
      refine⟨(k:Int),0,?_,e.O⟩;rw[d.O];rfl
     obtain⟨dv,eg,ei,ds,a9⟩:=qN v br.O;have e9:((j:Int)==0)=false:=bF (by omega);have cd:x.ops[j-1]?=some (x.ops.getD (j-1) nO):=by rw[yc,gG (by rw[<-C.O];exact a9)];rfl
     obtain⟨c1,ch,b1,q⟩:=cq.O.at_ cd
     have N:im x=((x.ops.getD (j-1) nO).k==10||(x.ops.getD (j-1) nO).k==14):=by
      unfold im;rw[<-C.O,yg (Nat.pos_of_ne_zero v),Bool.true_and]
     generalize x.ops.getD (j-1) nO=o at*;subst b1;have m:=q 0 _ rfl;rw[yW] at m;clear q cd ds;have ej:=(aR ((j:Int)-1)).trans dv
     by_cases u:o.k=10
     ·have a:be p x=0:=W.O true (by rw[N,u];rfl)
      have ar:Hd (dM p (p.drop (k+1))=dM p p):=hD (by rw[<-D.O,z.O,iL a]);rw[u] at m;clear N u v a9 a;go_wp2_with fail;go_roundw
      case rel=>exact⟨k+1,g,by first|exact cK k|exact cH a8,ar.O,Y.O⟩
      case measure=>first|exact au rfl g|exact au a8 g
     have c2:(o.k==10)=false:=bF u;have d3:(o.k !=10)=true:=bT u
     by_cases K:o.k=14
     ·have a:be p x=0:=W.O true (by rw[N,K];rfl)
      have ar:Hd (dM p (p.drop (k+1))=dM p p):=hD (by rw[<-D.O,z.O,iL a]);rw[K] at m;clear N u K v a9 c2 d3 a;go_wp2_with fail;go_roundw
      case rel=>exact⟨k+1,g,by first|exact cK k|exact cH a8,ar.O,Y.O⟩
      case measure=>first|exact au rfl g|exact au a8 g
     have d4:(o.k==14)=false:=bF K;have e8:(o.k !=14)=true:=bT K
     have d:Hd (bU p=113):=hD (by
      have a:be p x=113:=W.O false (by rw[N,c2,d4];rfl);rw[Q.O,<-D.O,z.O,fA (by rw[a];decide),a])
     clear N u K v a9;go_wp2_with fail
     go_ret3
     refine⟨(k:Int),((j-1:Nat):Int),?_,e.O⟩;rw[d.O];rfl
  ·have dk:¬(k:Int)<(n:Int):=λf=>g (yB.1 f)
   have cb:k=n:=yT dn (yA g);rw[cb,t.O.1,zq] at V;have d:Hd (bU p=0):=hD (by rw[Q.O,<-V];rfl);have e:Hd (ac w wr):=hD (E.O.trans P);clear V P cb;go_wp2_with fail
   go_ret3
   refine⟨0,0,?_,e.O⟩;rw[d.O];rfl
def io(p:List ah)(n:Nat):Int:=if bU p≠0 then bU p else if (n:Int)≠(bG p 0).args then 114 else 0
theorem BW{p:List ah}(a:bU p=0):p≠[]:=by
 unfold bU at a;split at a
 ·cases a
 ·split at a
  ·cases a
  ·assumption
theorem wO(p:List ah)(A a0:Option Addr)(c a a4:Nat)(F:Nat->Prop)(w:World)(z:fN w F A p)(P:p.length<=1000)(R:∀x∈p,x.ops.length<=1000):
 Calls Tryz.prog 39 #[aP p A c,.slice a0 a a4] w λd w'=>d=.returned (.int .i64 (io p a))/\ac w w':=by
 obtain⟨n,r⟩:=eX p.length;obtain⟨i,o⟩:=eX (w.alloc (.cells #[.slice A n c] 24));have s:ac w i:=by rw[o];exact(aa.refl _ w).alloc _
 obtain⟨a1,C⟩:=eX w.heap.size;have y:ae i a1 24 #[.slice A n c]:=by rw[o,C];exact bN
 have G:=y.I 0;simp at G;obtain⟨e,q⟩:=eX (bU p);obtain⟨k,D⟩:=eX (io p a);rw[<-D]
 have t:Hd (Calls Tryz.prog 34 #[.agg #[.slice A n c]] i λd w'=>∃fn V,d=.returned (.tuple #[.int .i64 e,.int .i64 fn,.int .i64 V])/\ac i w'):=hD (by
  have:=wQ p A c F i (z.U s) P R;unfold aP sP at this;rw[<-r,<-q] at this;exact this)
 have m:Hd (k=if e≠0 then e else if (a:Int)≠(bG p 0).args then 114 else 0):=hD (by rw[D,q];rfl);have u:Hd (e=0->p≠[]):=hD λd=>BW (by rw[<-q];exact d)
 have W:=hD (z.U s);have Z:=hD y;have Y:=hD s;have K:=hD r;have X:=hD C;have L:=hD o.symm;unfold aP;rw[<-r];clear z P R r o s C y q D;go_enter Tryz.func39,Tryz.ntmps39;go_upto_region 1 with fail;rw[L.O,<-X.O];clear L;go_wp2_with fail;refine t.O.mono ?_;rintro d a6 ⟨fn,V,rfl,l⟩;have v:=hD (Y.O.trans l);have G:=(l.J Z.O nF).I 0;simp at G
 by_cases j:e=0
 ·have S:=u.O j
  subst j;have Q:0<n:=by rw[K.O];exact zK.2 S
  obtain⟨x,E⟩ :∃x,p[0]?=some x:=⟨p[0]'(by rw[<-K.O];exact Q),gG _⟩
  have N:bG p 0=x:=by unfold bG;rw[yc,show(0:Int).toNat=0 from rfl,E];rfl
  obtain⟨b,ab,B,a7,a2,a5,_,_,_⟩:=(W.O.U l).at_ E;subst a2;rw[Nat.zero_mul,yW] at a5;have a9:(0:Int)<(n:Int):=by omega
  have H:Hd (k=if (a:Int)≠x.args then 114 else 0):=hD (by rw[m.O,yb (by simp),N]);clear S E N Q l t m u
  by_cases f:(a:Int)=x.args
  ·have T:((a:Int)==x.args)=true:=beq_iff_eq.2 f
   have a3:((a:Int) !=x.args)=false:=by simp[bne,T]
   have g:Hd (k=0):=hD (by rw[H.O,yb (λd=>d f)]);clear f;go_wp2_with fail;go_ret;exact⟨by rw[g.O];rfl,v.O⟩
  ·have T:((a:Int)==x.args)=false:=bF f
   have a3:((a:Int) !=x.args)=true:=bT f;have g:Hd (k=114):=hD (by rw[H.O,yf f]);clear f;go_wp2_with fail;go_ret;exact⟨by rw[g.O];rfl,v.O⟩
 ·have a8:(e==0)=false:=bF j
  have g:Hd (k=e):=hD (by rw[m.O,yf j]);clear j l t m u;go_wp2_with fail;go_ret;exact⟨by rw[g.O];rfl,v.O⟩
def js(p:List ah)(n:Nat)(fuel:Int):Int:=if io p n≠0 then io p n else if fuel<0\/65536<fuel then 2 else 0
theorem kM{w w':World}{A:Option Addr}{n d:Nat}{xs:List Value}(b:cO w w.heap.size d A n xs)(c:ac w w'):cO w' w'.heap.size d A n xs:=
 ⟨b.1,λi=>by
   obtain⟨a,e,f,g⟩:=b.2 i;refine⟨a,e,lL f c.size,λj u k=>?_⟩;have:=g j u k;exact(c.I (p:=a.add j) (block_lt_of_cell this) nF).trans this⟩
theorem vQ{w:World}{F:Nat->Prop}{A:Option Addr}{xs:List Int}(i:aL w F A xs):cO w w.heap.size 1 A xs.length (xs.map (Value.int .i64)):=by
 refine⟨by simp,λc=>?_⟩
 rcases i with⟨_,f⟩|⟨b,o,g,_,d⟩
 ·rw[f] at c;exact absurd c (by simp)
 ·refine⟨⟨b,o,none⟩,g,?_,λj u a=>?_⟩
  ·exact block_lt_of_cell (d 0 c).2
  ·rw[yJ] at a
   cases hx:xs[j]? with
   |none=>rw[hx] at a;cases a
   |some y=>
    rw[hx] at a
    cases a
    have k:=(gS hx).1;have e:=(d j k).2;rw[yc,hx] at e;rw[bw];exact e
theorem sk{p:List ah}{n:Nat}{a:Int}(b:io p n≠0):js p n a=io p n:=yf b
theorem Aj{p:List ah}{n:Nat}(a:io p n=0):(n:Int)=(bG p 0).args:=by
 unfold io at a;split at a
 ·rename_i b;exact absurd a b
 ·split at a
  ·cases a
  ·rename_i b
   exact Classical.not_not.1 b
theorem uH{p:List ah}{n:Nat}(a:io p n=0):bU p=0:=by
 unfold io at a;split at a
 ·rename_i b;exact absurd a b
 ·rename_i b;exact Classical.not_not.1 b
theorem qD(a b:Int)(w:World)(d:b≠0):Calls Tryz.prog 167 #[.int .i64 a,.int .i64 b] w λe w'=>e=.returned (.tuple #[.int .i64 (wrap64 (a.tdiv b)),.int .i64 (a.tmod b)])/\ac w w':=by
 by_cases c:b= -1
 ·subst c
  have f:a.tdiv (-1)= -a:=by rw[Int.tdiv_neg,Int.tdiv_one]
  have g:a.tmod (-1)=0:=by rw[Int.tmod_neg,Int.tmod_one]
  rw[f,g];go_enter Tryz.func167,Tryz.ntmps167;go_wp2_with fail;refine bodyPost_ret (results_tmp2 rfl _ _ _) rfl ?_;exact⟨rfl,oR⟩
 ·have i:(b== -1)=false:=bF c
  have j:¬b=0:=d;have k:(b==0)=false:=bF d;go_enter Tryz.func167,Tryz.ntmps167;go_wp2_with fail
  go_quiet (fail)
  go_wp2_with fail;refine bodyPost_ret (results_tmp2 rfl _ _ _) rfl ?_;exact⟨rfl,oR.drewN _⟩
theorem ms(k a b:Int)(w:World)(m:2<=k/\k<=9)(o:jp a):Calls Tryz.prog 135 #[.int .u8 k,.int .i64 a,.int .i64 b] w λj w'=>j=.returned (fI (dt k a b))/\ac w w':=by
 have d:k=2\/k=3\/k=4\/k=5\/k=6\/k=7\/k=8\/k=9:=by omega
 clear m
 rcases d with d|d|d|d|d|d|d|d
 ·subst d
  rw[show fI (dt 2 a b)=.tuple #[.int .i64 a,.bool true] from rfl];go_enter Tryz.func135,Tryz.ntmps135;go_wp2_with fail;refine bodyPost_ret (results_tmp2 rfl _ _ _) rfl ?_;exact⟨rfl,oR⟩
 ·subst d
  rw[show fI (dt 3 a b)=.tuple #[.int .i64 (wrap64 (a+b)),.bool true] by rw[<-aR];rfl];go_enter Tryz.func135,Tryz.ntmps135;go_wp2_with fail;refine bodyPost_ret (results_tmp2 rfl _ _ _) rfl ?_;exact⟨rfl,oR⟩
 ·subst d
  rw[show fI (dt 4 a b)=.tuple #[.int .i64 (wrap64 (a-b)),.bool true] by rw[<-aR];rfl];go_enter Tryz.func135,Tryz.ntmps135;go_wp2_with fail;refine bodyPost_ret (results_tmp2 rfl _ _ _) rfl ?_;exact⟨rfl,oR⟩
 ·subst d
  rw[show fI (dt 5 a b)=.tuple #[.int .i64 (wrap64 (a*b)),.bool true] by rw[<-aR];rfl];go_enter Tryz.func135,Tryz.ntmps135;go_wp2_with fail;refine bodyPost_ret (results_tmp2 rfl _ _ _) rfl ?_;exact⟨rfl,oR⟩
 ·subst d
  by_cases c:b=0
  ·subst c
   rw[show fI (dt 6 a 0)=.tuple #[.int .i64 0,.bool false] from rfl];go_enter Tryz.func135,Tryz.ntmps135;go_wp2_with fail;refine bodyPost_ret (results_tmp2 rfl _ _ _) rfl ?_;exact⟨rfl,oR⟩
  ·have g:=hD (qD a b w c)
   have e:dt 6 a b=some (wrap64 (a.tdiv b)):=by rw[<-aR];unfold dt;simp[c]
   rw[e,show fI (some (wrap64 (a.tdiv b)))=.tuple #[.int .i64 (wrap64 (a.tdiv b)),.bool true] from rfl];clear e;generalize wrap64 (a.tdiv b)=x at*;have n:(b==0)=false:=bF c;go_enter Tryz.func135,Tryz.ntmps135;go_wp2_with fail;refine g.O.mono ?_;rintro j q ⟨rfl,f⟩;have i:=hD f;clear f;go_wp2_with fail;refine bodyPost_ret (results_tmp2 rfl _ _ _) rfl ?_;exact⟨rfl,i.O⟩
 ·subst d
  by_cases c:b=0
  ·subst c
   rw[show fI (dt 7 a 0)=.tuple #[.int .i64 0,.bool false] from rfl];go_enter Tryz.func135,Tryz.ntmps135;go_wp2_with fail;refine bodyPost_ret (results_tmp2 rfl _ _ _) rfl ?_;exact⟨rfl,oR⟩
  ·have g:=hD (qD a b w c)
   have e:dt 7 a b=some (a.tmod b):=by rw[<-vv (vr (y:=b) o),<-aR];unfold dt;simp[c]
   rw[e,show fI (some (a.tmod b))=.tuple #[.int .i64 (a.tmod b),.bool true] from rfl];clear e;generalize a.tmod b=x at*;have n:(b==0)=false:=bF c;go_enter Tryz.func135,Tryz.ntmps135;go_wp2_with fail;refine g.O.mono ?_;rintro j q ⟨rfl,f⟩;have i:=hD f;clear f;go_wp2_with fail;refine bodyPost_ret (results_tmp2 rfl _ _ _) rfl ?_;exact⟨rfl,i.O⟩
 ·subst d
  by_cases c:a<b
  ·rw[show fI (dt 8 a b)=.tuple #[.int .i64 1,.bool true] by unfold dt;simp[c,fI]]
   have l:decide (a<b)=true:=yg c;clear c;go_enter Tryz.func135,Tryz.ntmps135;go_wp2_with fail;refine bodyPost_ret (results_tmp2 rfl _ _ _) rfl ?_;exact⟨rfl,oR⟩
  ·rw[show fI (dt 8 a b)=.tuple #[.int .i64 0,.bool true] by unfold dt;simp[c,fI]]
   have l:decide (a<b)=false:=yd c;clear c;go_enter Tryz.func135,Tryz.ntmps135;go_wp2_with fail;refine bodyPost_ret (results_tmp2 rfl _ _ _) rfl ?_;exact⟨rfl,oR⟩
 ·subst d
  by_cases c:a=b
  ·rw[show fI (dt 9 a b)=.tuple #[.int .i64 1,.bool true] by unfold dt;simp[c,fI]]
   have l:(a==b)=true:=beq_iff_eq.2 c;clear c;go_enter Tryz.func135,Tryz.ntmps135;go_wp2_with fail;refine bodyPost_ret (results_tmp2 rfl _ _ _) rfl ?_;exact⟨rfl,oR⟩
  ·rw[show fI (dt 9 a b)=.tuple #[.int .i64 0,.bool true] by unfold dt;simp[c,fI]]
   have l:(a==b)=false:=bF c;clear c;go_enter Tryz.func135,Tryz.ntmps135;go_wp2_with fail;refine bodyPost_ret (results_tmp2 rfl _ _ _) rfl ?_;exact⟨rfl,oR⟩
theorem Bm(l:List UInt8)(g:fT l)(w:World):Calls Tryz.prog 97 #[.string (sB l)] w λr w'=>r=.returned (.bool true)/\ac w w':=by
 have o:(sB l).size<=12:=by rw[jT];exact g.1
 have q:Hd (∀k,(f:k<(sB l).size)->1<=(sB l)[k].toNat/\(sB l)[k].toNat<=16):=hD (λk f=>by
  have t:k<l.length:=by rw[<-jT];exact f
  have:((sB l)[k]'f)=l[k]:=by simp[sB,ByteArray.getElem_eq_getElem_data]
  simp only[this];exact g.2 _ (yN t))
 clear g;generalize sB l=s at*;have e:=hD o;clear o;go_enter Tryz.func97,Tryz.ntmps97;go_wp2_with fail
 go_loopw [3] (λi wr=>∃k:Nat,k<=s.size/\i=.int .i64 k/\ac w wr) (λi _=>s.size-(intOf i).toNat)
 case atStart=>exact⟨0,by omega,rfl,oR⟩
 case round=>
  obtain⟨k,D,rfl,b⟩:=hrel
  by_cases a:k<s.size
  ·obtain⟨j,m⟩:=q.O k a
   have u:(0:Int)<=(k:Int):=by omega
   have n:(k:Int)<(s.size:Int):=by omega
   obtain⟨x,c⟩:=eX (s[k].toNat:Nat);rw[<-c] at j m
   have C:∀W:World,(Instr.index 9 (.string s) (.int .i64 (k:Int))).run Tryz.prog W=.ok (.int .u8 (x:Int)) W:=λW=>by
    rw[run_index_string W _ s _ _ Tryz.underlying9,dif_pos ⟨u,n⟩,c];rfl
   have y:decide ((x:Int)<1)=false:=yd (by omega);have z:decide ((16:Int)<(x:Int))=false:=yd (by omega);have d:=hD b;have v:=hD c;clear b c j m;go_wp2_with fail;go_roundw
   case rel=>exact⟨k+1,by omega,by rw[cG a (by have:=e.O;omega)];rfl,d.O⟩
   case measure=>exact au (cG a (by have:=e.O;omega)) a
  ·have n:¬(k:Int)<(s.size:Int):=by omega
   have B:decide ((s.size:Int)<=12)=true:=yg (by have:=e.O;omega);have d:=hD b;clear b;go_wp2_with fail;go_ret;exact⟨rfl,d.O⟩
theorem sj(l:List UInt8)(e:fT l)(n:Nat)(x:1<=n)(y:n<=16)(w:World):Calls Tryz.prog 82 #[.string (sB l),.int .i64 (n:Int)] w λa w'=>a=.returned (lV l n)/\ac w w':=by
 have g:=hD (Bm l e w);have r:decide ((n:Int)<1)=false:=yd (by omega);have t:decide ((16:Int)<(n:Int))=false:=yd (by omega);have f:=jT l;have k:=e.1;have C:IntKind.u8.wrap (n:Int)=(n:Int):=by unfold IntKind.wrap;simp[IntKind.bits,IntKind.signed];omega
 clear e
 by_cases b:l.length=12
 ·have a:lV l n=.tuple #[.string ByteArray.empty,.bool false]:=yf b
  rw[a];have o:(sB l).size=12:=by rw[f];exact b
  have B:decide (12<=(((sB l).size:Nat):Int))=true:=yg (by omega);clear a f k b;generalize sB l=s at*;go_enter Tryz.func82,Tryz.ntmps82;go_wp2_with fail;refine g.O.mono ?_;rintro a q ⟨rfl,c⟩;have d:=hD c;clear c;go_wp2_with fail
  go_ret2
  exact⟨rfl,d.O⟩
 ·have a:lV l n=.tuple #[.string (sB (l++ [UInt8.ofNat n])),.bool true]:=yb b
  have o:decide (12<=(((sB l).size:Nat):Int))=false:=yd (by omega);have z:¬9223372036854775807<(sB l).size+1:=by omega
  have u:∀W:World,(convert 72 9 (.slice (some ⟨W.heap.size,0,none⟩) 1 1)).run Tryz.prog (W.alloc (.cells #[.int .u8 (n:Int)] 5))=.ok (.string ⟨#[UInt8.ofNat n]⟩) (W.alloc (.cells #[.int .u8 (n:Int)] 5)):=by
   intro W;have m:=ae.new W 5 #[.int .u8 (n:Int)]
   have:=run_convert_bytes_arg (P:=Tryz.prog) (W.alloc (.cells #[.int .u8 (n:Int)] 5)) 72 5 Tryz.underlying72 Tryz.underlying5 W.heap.size 0 1 1 [(n:Int)] rfl (λi v=>by
    have:i=0:=by omega
    subst this;exact m.I 0) 9 Tryz.underlying9
   rw[this]
   congr 2
  have j:sB (l++ [UInt8.ofNat n])=sB l++(⟨#[UInt8.ofNat n]⟩ :ByteArray):=by
   apply ByteArray.ext;simp[sB]
  rw[a,j];clear a f k b j;generalize sB l=s at*;go_enter Tryz.func82,Tryz.ntmps82;go_wp2_with fail;refine g.O.mono ?_;rintro a q ⟨rfl,c⟩;have d:=hD c;clear c;go_wp2_with fail
  go_ret2
  exact⟨rfl,d.O.alloc _⟩
end
end Go.Proofs.YtmdocplknceilaaGreat
