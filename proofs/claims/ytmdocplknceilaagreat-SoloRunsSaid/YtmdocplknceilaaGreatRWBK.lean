import Derived.Test.YtmdocplknceilaaGreatRWBD
import Derived.Test.YtmdocplknceilaaGreatRWBH
set_option linter.all false
set_option maxRecDepth 100000
set_option maxHeartbeats 6000000
namespace Go.Proofs.YtmdocplknceilaaGreat
section
open Go.RowKit Go.Maps
theorem kC:eE (λ_=>none)=λ_=>none:=by
 funext v;unfold eE;split<;>rfl
theorem vB(kd:IntKind):gI kd (λ_=>none)=λ_=>none:=by
 funext v;unfold gI;split
 ·split<;>rfl
 ·rfl
theorem Bo:ja [] =λ_=>none:=by
 funext n;unfold ja;rw[dif_neg];rintro ⟨v,a⟩;simp at a
theorem wX:iA [] =λ_=>none:=by
 funext v;unfold iA;split<;>simp
structure vX(w w':World)(thr most:Int)(k:Nat)(tag:Nat->Nat)(L:cN)(s:PS):Prop where
 h:aY w' tag L s
 fresh:iF s
 progs:∀j,s.progs j=none
 known:∀n,s.known n=none
 away:∀n,s.away n=false
 U:ac w w'
 new:∀b,tag b≠0->w.heap.size<=b
 len:s.ths.length=k
 c0:∀x∈s.ds,x.c0<=256
 clen:s.C.length<=300*k
 most_:L.most=most
 thr_:L.thr=thr
 nn:L.n<=1000*k
 n0:0<=L.n
 fn:L.fn=0
 dn:L.dn= []
 on:L.on=0
 pn:L.pn=0
 qv:L.qv=.slice none 0 0
def Ec(thr lg most:Int)(pb tb mb gb nb mm fb kb ab ob m:Nat):cN:=
 ⟨pb,thr,lg,most,.slice none 0 0,[],tb,mb,λ_=>0,gb,λ_=>(none,0),0,.slice none 0 0,nb,mm,fb,λ_=>0,λ_=>⟨none,0,.slice none 0 0,0,0,0,.slice none 0 0,.pointer none,.pointer none⟩,0,kb,0,ab,0,ob,0,.slice none 0 0,[],m,0,.slice none 0 0,[],[]⟩
def F6:PS:=⟨⟨λ_=>none,[],λ_=>none,[],λ_=>False⟩,[],[],[],[],[],λ_=>none,λ_=>none,λ_=>false,λ_=>none⟩
theorem aX.grown{w:World}{tag:Nat->Nat}{L:cN}{s:PS}{hv' e:Value}{n':Int}{tps' c:List Nat}{ps':List (List Nat)}{C':List Int}{g:List aT}{ths':List Th}(a:aX [1,3,5,15] w tag L s)
 (l:tag L.pb=1/\ae w L.pb 123 (bJ {L with hv:=hv',tps:=tps',n:=n',v:=e,dp:=c,ps:=ps'})) (q:DW w (λb=>tag b=3) L.m n' e C' g c ps') (t:(∀b,hv'.ownBlock=some b->tag b=5)/\w.ownsRow 0 124 1 hv' tps'.length (tps'.map ptr))
 (o:tps'.length=ths'.length/\(∀(k:Nat) (th:Th),ths'[k]?=some th->xZ w tag {L with hv:=hv',tps:=tps',n:=n',v:=e,dp:=c,ps:=ps'} k th)/\∀(i j tp:Nat),tps'[i]?=some tp->tps'[j]?=some tp->i=j):
 aY w tag {L with hv:=hv',tps:=tps',n:=n',v:=e,dp:=c,ps:=ps'} {s with C:=C',ds:=g,ths:=ths'}:=
 ⟨a.tlt,λ_=>l,λ_=>a.p2 (by decide),λ_=>q,λ_ j p x=>a.p4 (by decide) j p x,λ_=>t,λ_=>a.p6 (by decide),λ_=>a.p7 (by decide),λ_=>a.p8 (by decide),λ_=>a.p9 (by decide),λ_=>a.p10 (by decide),λ_=>a.p11 (by decide),λ_=>a.p12 (by decide),λ_=>a.p13 (by decide),λ_=>a.p14 (by decide),λ_=>o,λn f u _=>a.p16 n f u (by simp;omega),a.p17⟩
def gk(z B b:Nat):Nat:=if b<z then 0 else if b<B then 2 else if b=B then 8 else if b=B+1 then 9 else if b=B+2 then 10 else if b=B+3 then 11 else if b=B+4 then 12 else if b=B+5 then 13 else if b=B+6 then 14 else if b=B+7 then 1 else if b=B+8 then 3 else 0
theorem E4{z B:Nat}(a:z<=B):gk z B B=8/\gk z B (B+1)=9/\gk z B (B+2)=10/\gk z B (B+3)=11/\gk z B (B+4)=12/\gk z B (B+5)=13/\gk z B (B+6)=14/\gk z B (B+7)=1/\gk z B (B+8)=3:=by
 refine⟨?_,?_,?_,?_,?_,?_,?_,?_,?_⟩
 ·unfold gk
  rw[yb (show ¬(B<z) by omega),yb (show ¬(B<B) by omega),yf rfl]
 ·unfold gk
  rw[yb (show ¬(B+1<z) by omega),yb (show ¬(B+1<B) by omega),yb (show ¬(B+1=B) by omega),yf rfl]
 ·unfold gk
  rw[yb (show ¬(B+2<z) by omega),yb (show ¬(B+2<B) by omega),yb (show ¬(B+2=B) by omega),yb (show ¬(B+2=B+1) by omega),yf rfl]
 ·unfold gk
  rw[yb (show ¬(B+3<z) by omega),yb (show ¬(B+3<B) by omega),yb (show ¬(B+3=B) by omega),yb (show ¬(B+3=B+1) by omega),yb (show ¬(B+3=B+2) by omega),yf rfl]
 ·unfold gk
  rw[yb (show ¬(B+4<z) by omega),yb (show ¬(B+4<B) by omega),yb (show ¬(B+4=B) by omega),yb (show ¬(B+4=B+1) by omega),yb (show ¬(B+4=B+2) by omega),yb (show ¬(B+4=B+3) by omega),yf rfl]
 ·unfold gk
  rw[yb (show ¬(B+5<z) by omega),yb (show ¬(B+5<B) by omega),yb (show ¬(B+5=B) by omega),yb (show ¬(B+5=B+1) by omega),yb (show ¬(B+5=B+2) by omega),yb (show ¬(B+5=B+3) by omega),yb (show ¬(B+5=B+4) by omega),yf rfl]
 ·unfold gk
  rw[yb (show ¬(B+6<z) by omega),yb (show ¬(B+6<B) by omega),yb (show ¬(B+6=B) by omega),yb (show ¬(B+6=B+1) by omega),yb (show ¬(B+6=B+2) by omega),yb (show ¬(B+6=B+3) by omega),yb (show ¬(B+6=B+4) by omega),yb (show ¬(B+6=B+5) by omega),yf rfl]
 ·unfold gk
  rw[yb (show ¬(B+7<z) by omega),yb (show ¬(B+7<B) by omega),yb (show ¬(B+7=B) by omega),yb (show ¬(B+7=B+1) by omega),yb (show ¬(B+7=B+2) by omega),yb (show ¬(B+7=B+3) by omega),yb (show ¬(B+7=B+4) by omega),yb (show ¬(B+7=B+5) by omega),yb (show ¬(B+7=B+6) by omega),yf rfl]
 ·unfold gk
  rw[yb (show ¬(B+8<z) by omega),yb (show ¬(B+8<B) by omega),yb (show ¬(B+8=B) by omega),yb (show ¬(B+8=B+1) by omega),yb (show ¬(B+8=B+2) by omega),yb (show ¬(B+8=B+3) by omega),yb (show ¬(B+8=B+4) by omega),yb (show ¬(B+8=B+5) by omega),yb (show ¬(B+8=B+6) by omega),yb (show ¬(B+8=B+7) by omega),yf rfl]
theorem vN{z B b:Nat}(c:gk z B b≠0):z<=b/\(b<B\/b<=B+8):=by
 by_cases a:b<z
 ·exact absurd (by unfold gk;rw[yf a]) c
 ·refine⟨yA a,?_⟩
  by_cases e:b<B
  ·exact .inl e
  ·refine .inr (yA λf=>c ?_)
   unfold gk;rw[yb a,yb e,yb (show ¬(b=B) by omega),yb (show ¬(b=B+1) by omega),yb (show ¬(b=B+2) by omega),yb (show ¬(b=B+3) by omega),yb (show ¬(b=B+4) by omega),yb (show ¬(b=B+5) by omega),yb (show ¬(b=B+6) by omega),yb (show ¬(b=B+7) by omega),yb (show ¬(b=B+8) by omega)]
theorem DS{z B b:Nat}(a:z<=b/\b<B):gk z B b=2:=by
 unfold gk;rw[yb (by omega),yf a.2]
theorem Bm{w c:World}{thr lg C:Int}{F E:Nat}(b4:bS c (λb=>w.heap.size<=b/\b<c.heap.size) F E C (λ_=>none) 0 (λ_=>0))(al:ac w c){m o q t u v z A e:World}
 (N:m=c.alloc (.map #[] 0)) (P:o=m.alloc (.map #[] 0)) (Q:q=o.alloc (.map #[] 0)) (R:t=q.alloc (.map #[] 0)) (S:u=t.alloc (.map #[] 0)) (T:v=u.alloc (.map #[] 0)) (V:z=v.alloc (.map #[] 0))
 (W:A=z.alloc (.cells (bJ (Ec thr lg C z.heap.size F E c.heap.size m.heap.size o.heap.size q.heap.size t.heap.size u.heap.size v.heap.size A.heap.size)) 123)) (X:e=A.alloc (.cells #[.int .i64 0,.bool true,.slice none 0 0] 214)):
 ∃tag,vX w e thr C 0 tag (Ec thr lg C z.heap.size F E c.heap.size m.heap.size o.heap.size q.heap.size t.heap.size u.heap.size v.heap.size A.heap.size) F6:=by
 have s1:m.heap.size=c.heap.size+1:=by rw[N];simp
 have a7:o.heap.size=c.heap.size+2:=by rw[P];simp[s1]
 have a8:q.heap.size=c.heap.size+3:=by rw[Q];simp[a7]
 have a9:t.heap.size=c.heap.size+4:=by rw[R];simp[a8]
 have ab:u.heap.size=c.heap.size+5:=by rw[S];simp[a9]
 have ad:v.heap.size=c.heap.size+6:=by rw[T];simp[ab]
 have b3:z.heap.size=c.heap.size+7:=by rw[V];simp[ad]
 have ai:A.heap.size=c.heap.size+8:=by rw[W];simp[b3]
 have br:e.heap.size=c.heap.size+9:=by rw[X];simp[ai]
 have bc:ac c m:=by rw[N];exact oR.alloc _
 have bf:ac m o:=by rw[P];exact oR.alloc _
 have bk:ac o q:=by rw[Q];exact oR.alloc _
 have bm:ac q t:=by rw[R];exact oR.alloc _
 have bn:ac t u:=by rw[S];exact oR.alloc _
 have bo:ac u v:=by rw[T];exact oR.alloc _
 have bp:ac v z:=by rw[V];exact oR.alloc _
 have bq:ac z A:=by rw[W];exact oR.alloc _
 have an:ac A e:=by rw[X];exact oR.alloc _
 have b2:=bq.trans an;have b1:=bp.trans b2;have b0:=bo.trans b1;have aE:=bn.trans b0;have az:=bm.trans aE;have aw:=bk.trans az;have av:=bf.trans aw;have ar:=bc.trans av;have am:aS Tryz.prog e 54 c.heap.size (λ_=>none) 0:=by have:=aS.made oI c;rw[<-N] at this;exact this.only av nF
 have a1:aS Tryz.prog e 58 m.heap.size (λ_=>none) 0:=by have:=aS.made ix m;rw[<-P] at this;exact this.only aw nF
 have a2:aS Tryz.prog e 2 o.heap.size (λ_=>none) 0:=by have:=aS.made ub o;rw[<-Q] at this;exact this.only az nF
 have a3:aS Tryz.prog e 58 q.heap.size (λ_=>none) 0:=by have:=aS.made ix q;rw[<-R] at this;exact this.only aE nF
 have a4:aS Tryz.prog e 58 t.heap.size (λ_=>none) 0:=by have:=aS.made ix t;rw[<-S] at this;exact this.only b0 nF
 have a5:aS Tryz.prog e 58 u.heap.size (λ_=>none) 0:=by have:=aS.made ix u;rw[<-T] at this;exact this.only b1 nF
 have a6:aS Tryz.prog e 58 v.heap.size (λ_=>none) 0:=by have:=aS.made ix v;rw[<-V] at this;exact this.only b2 nF
 have H:ae e z.heap.size 123 (bJ (Ec thr lg C z.heap.size F E c.heap.size m.heap.size o.heap.size q.heap.size t.heap.size u.heap.size v.heap.size A.heap.size)):=by
  refine an.J ?_ nF;have:=ae.new z 123 (bJ (Ec thr lg C z.heap.size F E c.heap.size m.heap.size o.heap.size q.heap.size t.heap.size u.heap.size v.heap.size A.heap.size));rw[<-W] at this;exact this
 have K:cx e 0 A.heap.size 0 (.slice none 0 0) []:=by have:=cx.new A 0 (yx _);rw[<-X] at this;exact this
 obtain⟨B,Y⟩:=eX c.heap.size;rw[s1] at a1;rw[a7] at a2;rw[a8] at a3;rw[a9] at a4;rw[ab] at a5;rw[ad] at a6;rw[s1,a7,a8,a9,ab,ad,b3,ai] at H ⊢;rw[ai] at K;rw[<-Y] at am a1 a2 a3 a4 a5 a6 H K br ⊢;have b9:∀b,(w.heap.size<=b/\b<c.heap.size)->b<B:=λb l=>by rw[Y];exact l.2
 have ba:w.heap.size<=B:=by rw[Y];exact al.size
 obtain⟨c3,c4,bv,bx,bz,c0,c1,bt,c2⟩:=E4 ba;refine⟨gk w.heap.size B,?_,?_,λ_=>rfl,λ_=>rfl,λ_=>rfl,al.trans ar,λb l=>(vN l).1,rfl,λx g=>(by cases g),yx _,rfl,rfl,yE _,yE _,rfl,rfl,rfl,rfl,rfl⟩
 ·refine⟨λb l=>?_,λ_=>⟨bt,H⟩,λ_=>?_,λ_=>?_,λ_ j p a0=>(by cases a0),λ_=>⟨λb l=>(by cases l),⟨rfl,.inl ⟨rfl,rfl⟩⟩⟩,λ_=>⟨.inl ⟨rfl,rfl⟩,λn D=>(by cases D)⟩,λ_=>⟨λb l=>(by cases l),⟨rfl,.inl ⟨rfl,rfl⟩⟩⟩,λ_=>⟨c3,?_⟩,λ_=>⟨c4,?_⟩,λ_=>⟨bv,?_,λn D=>(by cases D)⟩,λ_=>⟨bx,?_⟩,λ_=>⟨bz,?_⟩,λ_=>⟨c0,?_⟩,λ_=>⟨c1,?_⟩,λ_=>⟨rfl,λk th Z=>(by cases Z),λi j tp b7=>(by cases b7)⟩,λn f b6=>(by cases b6),λn bb D=>absurd rfl D⟩
  ·have:=(vN l).2
   omega
  ·exact(b4.kp ar nG).mo λb l=>DS ⟨l.1,b9 b l⟩
  ·exact⟨c2,λk Z=>(by cases Z),K,rfl,rfl,λj x g=>(by cases g),λj i x a g=>(by cases g),λi j d c5 _ b5=>(by cases b5),λj i c7 c6 pl c9 p c8 a0=>(by cases a0)⟩
  ·show aS _ _ _ _ (gI .u64 λj=>none) 0
   rw[vB];exact am
  ·show aS _ _ _ _ (eE (ja [])) 0
   rw[Bo,kC];exact a1
  ·show aS _ _ _ _ (gI .i64 (iA [])) 0
   rw[wX,vB];exact a2
  ·show aS _ _ _ _ (eE λn=>none) 0
   rw[kC];exact a3
  ·show aS _ _ _ _ (eE λn=>none) 0
   rw[kC];exact a4
  ·show aS _ _ _ _ (eE λn=>if false=true then some (Value.int .i64 1) else none) 0
   simp only[zB,Yi];rw[kC];exact a5
  ·show aS _ _ _ _ (eE λn=>none) 0
   rw[kC];exact a6
 ·exact⟨rfl,rfl,rfl,rfl,λbb=>by simp[F6],⟨λi x g=>(by cases g),λi j x y _ g=>(by cases g),rfl,λi x g=>(by cases g)⟩,λx g=>(by cases g),rfl,λth b8=>(by cases b8),rfl,rfl,λn=>rfl⟩
theorem Fq:∃i z,Tryz.prog.info? 124=some i/\i.zero=some z/\i.size=1/\i.bytes=8/\z.cells.size=1:=by
 have a:(Tryz.prog.info? 124).map (λi=>(i.zero.map λz=>z.cells.size,i.size,i.bytes))=some (some 1,1,8):=by kernel_rfl
 cases hi:Tryz.prog.info? 124 with
 |none=>rw[hi] at a;cases a
 |some i=>
  rw[hi] at a;simp only[yU,yC,yP] at a
  cases hz:i.zero with
  |none=>rw[hz] at a;cases a.1
  |some z=>
   rw[hz] at a;exact⟨i,z,rfl,hz,a.2.1,a.2.2,yz a.1⟩
def uA(t:Nat):List Value:=[ptr t]
theorem tO(l:List Nat):l.flatMap uA=l.map ptr:=by
 induction l with
 |nil=>rfl
 |cons a l b=>rw[yZ,b];rfl
theorem Em(w:World)(o:Obj)(T:TypeId)(cs:Array Value):ae ((w.alloc o).alloc (.cells cs T)) (w.heap.size+1) T cs:=by
 have a:=ae.new (w.alloc o) T cs
 rwa [World.size_alloc] at a
def D8(w w':World)(thr most:Int)(k:Nat)(e:Ending):Prop:=∃tag L s,e=.returned (.tuple #[ptr L.pb,.int .i64 0])/\vX w w' thr most k tag L s
def tu(w wr:World)(thr most:Int)(pb m:Nat)(k:Nat):Prop:=∃tag L s,vX w wr thr most k tag L s/\L.pb=pb/\L.m=m
theorem Bl{an z p Q R q A:World}{thr bb:Int}{k lg d X D:Nat}{bc:Value}{W B:Option Addr}{tag:Nat->Nat}{L:cN}{s:PS}{tp:Nat}(b5:lg<=8)(e:vX an z thr bb k tag L s)(hv:L.hv=.slice W k X)(b4:L.tps.length=k)(a2:aa (λb=>tag b=3) z p)
 (bk:DW p (λb=>tag b=3\/z.heap.size<=b/\b<p.heap.size) L.m L.n bc (s.C++bV s.C.length (2 ^ lg)) (s.ds++ [⟨s.C.length,[((s.C.length:Int)+3,((2 ^ lg:Nat):Int))],[],none,[],4+((2 ^ lg:Nat):Int),0,((2 ^ lg:Nat):Int)⟩]) (L.dp++ [d]) (L.ps++ [[]]))
 (c5:tp=p.heap.size) (V:ac p Q) (ar:ae Q tp 131 (dQ (.pointer none) 0 d gY (.pointer none))) (N:ac Q R) (K:aa (λb=>(Value.slice W k X).ownBlock=some b) R q)
 (ba:q.ownsRow 0 124 1 (.slice B (k+1) D) (k+1) ((L.tps++ [tp]).flatMap uA)) (cd:∀b,(Value.slice B (k+1) D).ownBlock=some b->(Value.slice W k X).ownBlock=some b\/R.heap.size<=b)
 (b0:A=q.setCell ⟨L.pb,3,none⟩ (.slice B (k+1) D)) (bf:ae q L.pb 123 (bJ L)):tu an A thr bb L.pb L.m (k+1):=by
 have o:=e.h;obtain⟨H,ci⟩:=o.p1 (by decide);obtain⟨ai,cn⟩:=o.p5 (by decide);have b8:=o.p3 (by decide);obtain⟨az,aE,bm⟩:=o.p15 (by decide);rw[hv] at ai;have u:∀b,(Value.slice W k X).ownBlock=some b->tag b=5/\b<z.heap.size:=λb a=>⟨ai b a,o.tlt b (by rw[ai b a];decide)⟩
 have ck:L.pb<z.heap.size:=o.tlt _ (by rw[H];decide);obtain⟨P,Z⟩ :∃t,t=cS tag z p 3:=⟨_,rfl⟩
 have b1:aX [3] p P L s:=by rw[Z];exact o.part (i:=3) a2
 obtain⟨y,a0⟩ :∃t,t=cS P p Q 15:=⟨_,rfl⟩
 have br:aX [15,3] Q y L s:=by rw[a0];exact b1.part (i:=15) (V.mono λ_ a=>a.elim)
 have b2:=br.U N;have a3:∀b,tag b≠0->P b=tag b:=λb c=>by rw[Z];exact bL o.tlt b c
 have a6:∀b,P b≠0->y b=P b:=λb c=>by rw[a0];exact bL b1.tlt b c
 have a4:∀b,tag b≠0->y b=tag b:=λb c=>by rw[a6 b (by rw[a3 b c];exact c),a3 b c]
 have c2:aa (λb=>y b=5) R q:=K.mono λb a=>by rw[a4 b (by rw[(u b a).1];decide)];exact(u b a).1
 obtain⟨l,a1⟩ :∃t,t=cS y R q 5:=⟨_,rfl⟩
 have bt:aX [5,15,3] q l L s:=by rw[a1];exact b2.part (i:=5) c2
 have a7:∀b,y b≠0->l b=y b:=λb c=>by rw[a1];exact bL b2.tlt b c
 have a5:∀b,tag b≠0->l b=tag b:=λb c=>by rw[a7 b (by rw[a4 b c];exact c),a4 b c]
 have F:aa (λb=>b=L.pb) q A:=by rw[b0];exact af _ _ _ _
 have a9:l L.pb=1:=by rw[a5 _ (by rw[H];decide)];exact H
 have bv:aX [1,5,15,3] A l L s:=bt.same (i:=1) (F.mono λb a=>by rw[a];exact a9)
 have bx:aX [1,3,5,15] A l L s:=bv.mono λj _ ab=>by
  simp only[yG,zV,or_false] at ab ⊢;omega
 have cr:=a2.size;have cv:=V.size;have cw:=N.size;have cB:=K.size;have bz:L.dp.length=k:=by rw[b8.dlen,e.fresh.nlen,e.len]
 have cm:L.ps.length=k:=by rw[b8.plen,e.fresh.nlen,e.len]
 have cE:∀b T cs,ae z b T cs->tag b≠3->tag b≠5->b≠L.pb->ae A b T cs:=λb T cs c bn bo c3=>F.J (K.J (N.J (V.J (a2.J c bn) nF) nF) (λa=>bo (u b a).1)) c3
 have c6:l tp=15:=by
  have:y tp=15:=by rw[a0];exact fS ⟨by rw[c5];exact lR,ar.lt⟩
  rw[a7 tp (by rw[this];decide),this]
 have bp:DW A (λb=>l b=3) L.m L.n bc (s.C++bV s.C.length (2 ^ lg)) (s.ds++ [⟨s.C.length,[((s.C.length:Int)+3,((2 ^ lg:Nat):Int))],[],none,[],4+((2 ^ lg:Nat):Int),0,((2 ^ lg:Nat):Int)⟩]) (L.dp++ [d]) (L.ps++ [[]]):=by
  have ce:=(bk.kp V nG).kp N nG
  have cf:=ce.kp K (λb c a=>by
   have:=u b a
   rcases c with c|c
   ·rw[this.1] at c;exact absurd c (by decide)
   ·omega)
  have cg:=cf.kp F (λb c a=>by
   rw[a] at c
   rcases c with c|c
   ·rw[H] at c;exact absurd c (by decide)
   ·omega)
  refine cg.mo λb c=>?_
  have Y:P b=3:=by
   rcases c with c|c
   ·rw[a3 b (by rw[c];decide)];exact c
   ·rw[Z];exact fS c
  rw[a7 b (by rw[a6 b (by rw[Y];decide),Y];decide),a6 b (by rw[Y];decide)];exact Y
 have b7:∀b,(Value.slice B (k+1) D).ownBlock=some b->l b=5:=λb c=>by
  rcases cd b c with a|a
  ·rw[a5 b (by rw[(u b a).1];decide)];exact(u b a).1
  ·rw[a1];exact fS ⟨a,pE ba c⟩
 have bq:=aX.grown (hv':=.slice B (k+1) D) (tps':=L.tps++ [tp]) (n':=L.n) (ths':=s.ths++ [mB]) bx ⟨a9,by
  rw[b0];have:=bf.s_ 3 (.slice B (k+1) D)
  simpa[bJ] using this⟩ bp ⟨b7,by
  rw[yk,List.length_singleton,b4,<-tO]
  exact F.owns ba (λb c a=>by
   have:=b7 b c;rw[a,a9] at this;exact absurd this (by decide))⟩ ⟨by rw[yk,yk,az];rfl,λi th E=>?_,λi j t E ab=>?_⟩
 ·refine⟨l,_,_,⟨bq,?_,e.progs,e.known,e.away,?_,λb c=>?_,?_,λx am=>?_,?_,e.most_,e.thr_,?_,e.n0,e.fn,e.dn,e.on,e.pn,e.qv⟩,rfl,rfl⟩
  ·have g:=e.fresh
   refine⟨g.rw,g.ks,g.fm,g.hist,g.outs,C8 g.many (2 ^ lg) (Nat.one_le_two_pow),λx am=>?_,by simp[g.nlen],λth al=>?_,g.queue,g.nms,g.roots⟩
   ·rcases yH.1 am with a|a
    ·exact g.ds x a
    ·rw[yw.1 a]
     exact⟨rfl,rfl,rfl,rfl,rfl⟩
   ·rcases yH.1 al with a|a
    ·exact g.ths th a
    ·exact yw.1 a
  ·have ad:=e.new
   refine(((((e.U.trans' a2 (λb a=>.inr (ad b (by rw[a];decide)))).trans V).trans N).trans' K (λb a=>.inr (ad b (by rw[(u b a).1];decide))))).trans' F (λb a=>.inr (by rw[a];exact ad _ (by rw[H];decide)))
  ·have cp:=e.U.size
   rw[a1] at c
   rcases kL b c with a|a
   ·rw[a0] at a
    rcases kL b a with a|a
    ·rw[Z] at a
     rcases kL b a with a|a
     ·exact e.new b a
     ·omega
    ·omega
   ·omega
  ·show(s.ths++ [mB]).length=k+1
   rw[yk,e.len];rfl
  ·have c4:(2:Nat) ^ lg<=2 ^ 8:=Nat.pow_le_pow_right (by decide) b5
   rcases yH.1 am with a|a
   ·exact e.c0 x a
   ·rw[yw.1 a]
    show((2 ^ lg:Nat):Int)<=256;omega
  ·have c4:(2:Nat) ^ lg<=2 ^ 8:=Nat.pow_le_pow_right (by decide) b5
   show(s.C++bV s.C.length (2 ^ lg)).length<=300*(k+1);rw[yk,mw];have:=e.clen;omega
  ·show L.n<=1000*((k+1:Nat):Int)
   have:=e.nn;omega
 ·rcases gO E with a|⟨a,aw⟩
  ·obtain⟨t,a8,av,fv,S,v,b9,c7,c8,cq,c9,cb⟩:=aE i th a
   have al:=e.fresh.ths th (yh a);refine⟨t,a8,av,fv,?_,by rw[a5 t (by rw[v];decide)];exact v,?_,cE _ _ _ c7 (by rw[v];decide) (by rw[v];decide) (λa=>by rw[a,H] at v;exact absurd v (by decide)),c8,λj i a=>by(rw[al] at a;cases a),c9,cb⟩
   ·show(L.tps++ [tp])[i]?=some t
    rw[yi (gS S).1];exact S
   ·show(L.dp++ [d])[i]?=some a8
    rw[yi (gS b9).1];exact b9
  ·subst aw
   have b3:i=k:=by rw[a,e.len]
   refine⟨tp,d,.pointer none,.pointer none,?_,c6,?_,F.J (K.J (N.J ar nF) (λa=>?_)) (λa=>?_),λ_=>rfl,λj i a=>(by cases a),λa=>(by cases a),λ_=>rfl⟩
   ·show(L.tps++ [tp])[i]?=some tp
    rw[b3,<-b4];simp
   ·show(L.dp++ [d])[i]?=some d
    rw[b3,<-bz];simp
   ·have:=(u _ a).2
    omega
   ·omega
 ·have b6:∀(i t:Nat),L.tps[i]?=some t->t<z.heap.size:=λi t E=>by
   have c1:i<s.ths.length:=by rw[<-az];exact(gS E).1
   obtain⟨t',a8,av,fv,S,v,_⟩:=aE i s.ths[i] (gG c1);rw[E] at S
   cases S
   exact o.tlt _ (by rw[v];decide)
  rcases gO E with a|⟨a,aw⟩<;>rcases gO ab with f|⟨f,ch⟩
  ·exact bm i j t a f
  ·have:=b6 i t a;omega
  ·have:=b6 j t f;omega
  ·omega
attribute [local simp] eM gw gz dj eD Region.binds ed ey Is ap Act.put
theorem Dn(j lg:Nat)(f:Int)(dm:1<=j)(d6:j<=8)(c0:lg<=8)(d4:1<=f)(dl:f<=1024)(w:World):
 Calls Tryz.prog 25 #[.agg #[.int .i64 (j:Int),.int .i64 (lg:Int),.int .i64 f]] w λe w'=>D8 w w' j f j e:=by
 obtain⟨thr,b3⟩ :∃t:Int,t=(j:Int):=⟨_,rfl⟩
 obtain⟨a1,b0⟩ :∃t:Int,t=(lg:Int):=⟨_,rfl⟩
 obtain⟨q,Y⟩:=eX (w.alloc (.cells #[.int .i64 thr,.int .i64 a1,.int .i64 f] 40));obtain⟨d1,az⟩ :∃g,g=w.heap.size:=⟨_,rfl⟩
 have c7:ac w q:=by rw[Y];exact oR.alloc _
 have an:ae q d1 40 #[.int .i64 thr,.int .i64 a1,.int .i64 f]:=by rw[Y,az];exact bN
 have cv:=hD Y.symm;have ci:=hD az;have bn:=hD c7;have a2:=hD an;have bo:=hD b3;have ck:=hD b0;have P:=an.I 2;simp at P;have a6:=hD (uV f d4 (by omega) q);have dp:¬thr<1:=by omega
 have dq:¬8<thr:=by omega
 have dr:¬1024<f:=by omega
 have d5:=@run_makeMap Tryz.prog;unfold wm at a6;rw[<-b3,<-b0];clear Y az c7 an b3 b0;go_enter Tryz.func25,Tryz.ntmps25;go_upto_region 1 with fail;rw[cv.O,<-ci.O]
 go_upto_region 2 with(go_at_call 55;refine a6.O.mono ?_;rintro e m ⟨da,ds,rfl,cd,b4⟩;have cs:=hD cd;have cp:=hD b4;have br:=b4.J a2.O nF;have ce:=hD br;clear cd b4 br)
 clear P a6;obtain⟨K,N,P⟩:=ce.O.gE3;go_upto_region 5 with fail;obtain⟨a7,Q⟩:=eX (m.alloc (.map #[] 0));obtain⟨a8,R⟩:=eX (a7.alloc (.map #[] 0));obtain⟨a9,S⟩:=eX (a8.alloc (.map #[] 0));obtain⟨ab,T⟩:=eX (a9.alloc (.map #[] 0));obtain⟨ad,V⟩:=eX (ab.alloc (.map #[] 0));obtain⟨ai,W⟩:=eX (ad.alloc (.map #[] 0));obtain⟨al,X⟩:=eX (ai.alloc (.map #[] 0));have s1:a7.heap.size=m.heap.size+1:=by rw[Q];simp
 have b6:a8.heap.size=m.heap.size+1+1:=by rw[R];simp[s1]
 have b7:a9.heap.size=m.heap.size+1+1+1:=by rw[S];simp[b6]
 have b8:ab.heap.size=m.heap.size+1+1+1+1:=by rw[T];simp[b7]
 have b9:ad.heap.size=m.heap.size+1+1+1+1+1:=by rw[V];simp[b8]
 have ba:ai.heap.size=m.heap.size+1+1+1+1+1+1:=by rw[W];simp[b9]
 have cb:al.heap.size=m.heap.size+1+1+1+1+1+1+1:=by rw[X];simp[ba]
 rw[<-Q,<-R,<-S,<-T,<-V,<-W,<-X,<-cb,<-ba,<-b9,<-b8,<-b7,<-b6,<-s1];obtain⟨bq,ar⟩:=eX (al.alloc (.cells #[.int .i64 thr,.int .i64 a1,.int .i64 f,.slice none 0 0,.pointer (some ⟨da,0,none⟩),.map (some m.heap.size),.slice none 0 0,.map (some a7.heap.size),.map (some a8.heap.size),.map (some a9.heap.size),.map (some ab.heap.size),.map (some ad.heap.size),.map (some ai.heap.size),.slice none 0 0] 123));obtain⟨cw,av⟩:=eX (bq.alloc (.cells #[.int .i64 0,.bool true,.slice none 0 0] 214));obtain⟨gM,c3⟩:=Bm (w:=q) (lg:=a1) (thr:=thr) cs.O cp.O Q R S T V W X ar av;obtain⟨c9,C⟩:=eX al.heap.size;obtain⟨c6,B⟩:=eX bq.heap.size;have c1:tu q cw thr f c9 c6 0:=⟨gM,_,_,c3,by rw[C];rfl,by rw[B];rfl⟩
 have bm:=hD c1;have bc:=hD ar.symm;have bf:=hD av.symm;have bk:=hD B.symm;rw[bc.O,<-C];clear Q R S T V W X ar av s1 b6 b7 b8 b9 ba cb c3 c1 d5 C B K N P
 go_upto_region 6 with(go_at_call 56;refine(vF _).mono ?_;rintro e dw ⟨rfl,rfl⟩)
 rw[bf.O,bk.O];clear bc bf bk;have K:=((bm.O.choose_spec.choose_spec.choose_spec.1.U).J a2.O nF).I 0;simp at K;go_wp2_with fail;clear K
 go_loopw [47] (λi wr=>∃k:Nat,k<=j/\i=.int .i64 k/\tu q wr thr f c9 c6 k) (λi _=>j-(intOf i).toNat)
 case atStart=>exact⟨0,yx _,rfl,bm.O⟩
 case round=>
  obtain⟨k,dd,rfl,tag,L,s,c,C,B⟩:=hrel;subst C;subst B;have z:=hD c
  by_cases v:k<j
  ·have dk:(0:Int)<=(k:Int):=dK k
   have d2:(k:Int)<thr:=by rw[bo.O];exact cO v
   have c5:wrap64 ((k:Int)+1)=(k:Int)+1:=cX v (lT d6 (by decide));have N:=(c.U.J a2.O nF).I 1;simp at N;have a4:=hD (At (c.h.p3 (by decide)) c.fresh.many (by have:=c.clen;omega) lg c0);rw[<-ck.O] at a4;have c4:=(c.h.p1 (by decide)).2;obtain⟨y,A,hv⟩:=jx (c.h.p5 (by decide)).2;have aE:L.tps.length=k:=by rw[(c.h.p15 (by decide)).1,c.len]
   rw[aE] at hv;have l:=hD (aI hv aE);have cr:=hD c4;clear c c4 hv aE
   go_upto_region 11 with(go_at_call 57;refine a4.O.mono ?_;rintro e o ⟨d,dv,rfl,c8,bv⟩;have a5:=hD c8;have ch:=hD bv;clear c8 bv)
   have b1:=(z.O.h.p1 (by decide)).1;have b2:=(z.O.h.p5 (by decide)).1;have F:=a5.O.J cr.O (λe=>by rw[b1] at e;exact absurd e (by decide));have b5:=F.I 3;have d0:=F.fz 3;simp[bJ,l.O.1] at b5
   have cq:Hd (o.ownsRow 0 124 1 (.slice y k A) L.tps.length (L.tps.flatMap uA)):=hD (by
    have bx:=(z.O.h.p5 (by decide)).2;rw[l.O.1,<-tO] at bx;refine a5.O.owns bx (λb p e=>?_);rw[<-l.O.1] at p;have e:tag b=3:=e;rw[b2 b p] at e;exact absurd e (by decide))
   have cf:=hD F;have cm:Hd (L.tps.length<=1000000):=hD (by rw[l.O.2];omega)
   have c2:∀b,(Value.slice y k A).ownBlock=some b->b≠L.pb:=λb p e=>by
    rw[<-l.O.1] at p;have:=b2 b p;rw[e,b1] at this;exact absurd this (by decide)
   have cn:=hD c2;clear b1 b2 F N a4 c2
   go_wp2_with (first
    |(at_builtin;go_loud (refine jP (enc:=uA) rfl (.tmp 63) (.tmp 67) 114 124 1 8 0 rfl Tryz.underlying114 Fq (by decide) (by decide) (.slice y k A) rfl rfl L.tps o.heap.size (aa.owns (aa.alloc (aa.alloc (aa.refl (λ_=>False) o) _) _) cq.O nG) (Em _ _ _ _) (λu hu=>by simp[uA,ptr] at hu;rw[hu];rfl) rfl cm.O (yx _) ?_);intro v2 bp x D a0;rw[yk,List.length_singleton,l.O.2] at x;obtain⟨bb,bt,rfl⟩:=jx x;have a3:=hD (aI x (aI D a0));have H:=D.J ((cf.O.alloc _).alloc _) (λe=>cn.O _ e rfl);have b5:=H.I 3;have d0:=H.fz 3;simp[bJ,l.O.1] at b5;have cg:=hD H;clear x D a0 H)
    |fail)
   go_roundw
   case measure=>first|exact aB rfl v|exact aB c5 v
   case rel=>
    refine⟨k+1,v,by first|exact cK k|exact cH c5,?_⟩;obtain⟨E,Z⟩:=eX (o.alloc (.cells #[.pointer none,.int .i64 0,.pointer (some ⟨d,0,none⟩),.int .u64 0,.string ⟨#[]⟩,.pointer none] 131));obtain⟨am,aw⟩:=eX (E.alloc (.cells #[.pointer (some ⟨o.heap.size,0,none⟩)] 124));obtain⟨db,bz⟩:=eX (bp.setCell ⟨L.pb,3,none⟩ (.slice bb (k+1) bt));have x:=a3.O.1;have D:aa (λb=>(Value.slice y k A).ownBlock=some b) am bp:=by rw[aw,Z];exact a3.O.2.1
    have a0:∀b,(Value.slice bb (k+1) bt).ownBlock=some b->(Value.slice y k A).ownBlock=some b\/am.heap.size<=b:=by rw[aw,Z];exact a3.O.2.2
    have cB:ae E o.heap.size 131 (dQ (.pointer none) 0 d gY (.pointer none)):=by rw[Z];exact bN
    have d8:ac o E:=by rw[Z];exact oR.alloc _
    have d9:ac E am:=by rw[aw];exact oR.alloc _
    rw[<-bz];exact Bl c0 z.O l.O.1 l.O.2 a5.O ch.O rfl d8 cB d9 D x a0 bz cg.O
  ·have d2:¬(k:Int)<thr:=by rw[bo.O];exact λe=>v (yB.1 e)
   have d3:k=j:=by omega
   clear c;go_wp2_with fail
   go_ret2
   have d7:=bn.O.size;have a:=z.O;rw[d3] at a;exact⟨tag,L,s,rfl,⟨a.h,a.fresh,a.progs,a.known,a.away,bn.O.trans a.U,λb p=>lT d7 (a.new b p),a.len,a.c0,a.clen,a.most_,a.thr_,a.nn,a.n0,a.fn,a.dn,a.on,a.pn,a.qv⟩⟩
def kw(f:Int->Option (List ah))(j:Int)(p:List ah):Int->Option (List ah):=λi=>if i=j then some p else f i
theorem aX.fillJ{w:World}{tag:Nat->Nat}{L:cN}{s:PS}{j:Int}{p:List ah}{A:Option Addr}{c n':Nat}(a:aX [4,8] w tag L s)(cE:∀i q,s.progs i=some q->cW w (λb=>tag b=4) (L.pA i).1 q)(t:cW w (λb=>tag b=4) A p)(v:s.progs j=none)
 (k:tag L.gb=8/\aS Tryz.prog w 54 L.gb (gI .u64 λi=>if i=j then some (aM p A c) else(s.progs i).map λq=>aM q (L.pA i).1 (L.pA i).2) n') (m:∀n,s.T.fm n=none):
 aY w tag {L with pA:=λi=>if i=j then(A,c) else L.pA i,pn:=n'} {s with progs:=kw s.progs j p}:=
 ⟨a.tlt,λ_=>a.p1 (by decide),λ_=>a.p2 (by decide),λ_=>a.p3 (by decide),λ_ i q u=>by
  show cW w _ (if i=j then(A,c) else L.pA i).1 q;have g:(if i=j then some p else s.progs i)=some q:=u
  by_cases e:i=j
  ·rw[yf e] at g ⊢
   cases g
   exact t
  ·rw[yb e] at g ⊢
   exact cE i q g,λ_=>a.p5 (by decide),λ_=>a.p6 (by decide),λ_=>a.p7 (by decide),λ_=>⟨k.1,by
  have e:(λi=>(kw s.progs j p i).map λq=>aM q (if i=j then(A,c) else L.pA i).1 (if i=j then(A,c) else L.pA i).2)=λi=>if i=j then some (aM p A c) else(s.progs i).map λq=>aM q (L.pA i).1 (L.pA i).2:=by
   funext i;unfold kw
   by_cases e:i=j<;>simp[e]
  show aS _ _ _ _ (gI .u64 λi=>(kw s.progs j p i).map λq=>aM q (if i=j then(A,c) else L.pA i).1 (if i=j then(A,c) else L.pA i).2) n';rw[e];exact k.2⟩,λ_=>a.p9 (by decide),λ_=>a.p10 (by decide),λ_=>a.p11 (by decide),λ_=>a.p12 (by decide),λ_=>a.p13 (by decide),λ_=>a.p14 (by decide),λ_=>a.p15 (by decide),λn f o=>(by
  have l:s.T.fm n=some f:=o;rw[m n] at l
  cases l),a.p17⟩
def D7(w w':World)(tag:Nat->Nat)(L:cN)(s:PS)(j:Int)(p:List ah)(e:Ending):Prop:=∃tag' A c n',e=.returned (.int .i64 0)/\aY w' tag' {L with pA:=λi=>if i=j then(A,c) else L.pA i,pn:=n'} {s with progs:=kw s.progs j p}/\aQ w w' tag tag'/\n'<=L.pn+1
section
variable {w w':World}{tag:Nat->Nat}{L:cN}{s:PS}
theorem Dm(H:aY w tag L s)(j:Int)(a0:(Lit.int .u64 j).wf=true)(C:s.progs j=none)(Z:∀n,s.T.fm n=none)(b8:L.pn<16)(p:List ah)(A:Option Addr)(c:Nat)(F:Nat->Prop)(X:∀b,F b->b<w.heap.size/\tag b=0)(N:cW w F A p)(ab:mY p)(al:p.length<=1000)(b6:∀x∈p,x.ops.length<=1000):
 Calls Tryz.prog 26 #[ptr L.pb,.int .u64 j,aM p A c] w λa w'=>D7 w w' tag L s j p a:=by
 obtain⟨n,am⟩:=eX p.length;obtain⟨k,Y⟩:=eX (w.alloc (.cells #[.slice A n c] 24));obtain⟨u,ai⟩ :∃g,g=w.heap.size:=⟨_,rfl⟩
 have o:ac w k:=by rw[Y];exact oR.alloc _
 have b2:ae k u 24 #[.slice A n c]:=by rw[Y,ai];exact bN
 have az:=hD (kD (H.U o));have a4:=hD (λW (e:ac k W)=>rU p A c F W (N.kp (o.trans e) nG) (λb l=>lL (X b l).1 (o.trans e).size) al ab.wf);have a2:Hd (∀W,ac k W->Calls Tryz.prog 59 #[aM p A c] W λa w'=>ph W w' p a):=hD λW e=>Al A p c F W (N.kp (o.trans e) nG) al b6
 obtain⟨b9,b5⟩:=H.p8 (by decide);have a1:keyOf Tryz.prog 54 (.int .u64 j)=some (.int .u64 j):=Maps.keyOf_int_mk Tryz.underlying54 a0;have V:Hd (∀W,ac k W->aS Tryz.prog W 54 L.gb (gI .u64 λi=>(s.progs i).map λq=>aM q (L.pA i).1 (L.pA i).2) L.pn):=hD λW e=>b5.only (o.trans e) nF
 have bo:Hd (∀W,ac k W->(Instr.lookup 116 (.map (some L.gb)) (.int .u64 j) true).run Tryz.prog W=.ok (.tuple #[.agg #[.slice none 0 0],.bool false]) W):=hD λW e=>by
  have:=(V.O W e).look2 (t:=116) oI Tryz.underlying116 (z:=.agg #[.slice none 0 0]) (by kernel_rfl) a1;rw[nh,C] at this;exact this
 have aw:Hd (∀W,ac k W->∀ar,(Builtin.len_ #[116] ar #[.map (some L.gb)]).run Tryz.prog W=.ok (.int .i64 (L.pn:Int)) W):=hD λW e ar=>(V.O W e).len Tryz.underlying116 ar
 have b7:=(H.p1 (by decide)).2
 have a6:Hd (∀W,ac k W->W.cell? ⟨L.pb,5,none⟩=some (.map (some L.gb))/\W.cell? ⟨u,0,none⟩=some (.slice A n c)):=hD λW e=>by
  have Q:=(o.trans e).J b7 nF;have cd:=e.J b2 nF;exact⟨Q.I 5,cd.I 0⟩
 have bk:=hD ab.ck;have b1:=hD Y.symm;have a3:=hD ai;have aE:=hD o;have R:=hD H;have b0:=hD (aI N (aI X (aI C (aI Z a1))));have v:=hD b9;have cb:¬(16:Int)<=(L.pn:Int):=by omega
 obtain⟨cm,an⟩:=eX ((L.pn:Int):Int);rw[<-an] at aw cb;have bp:=hD (aI an b8);obtain⟨D,E⟩:=a6.O k oR;unfold aM at a4 a2 ⊢;rw[<-am] at a4 a2 ⊢;have ce:=hD am;unfold ptr at az ⊢;clear H a0 C Z b8 X N ab al b6 am Y ai o b2 b9 b5 a1 b7 an;go_enter Tryz.func26,Tryz.ntmps26;go_upto_region 1 with fail;rw[b1.O,<-a3.O]
 go_upto_region 4 with(first
  |(go_at_call 44;refine az.O.mono ?_;rintro a cn ⟨rfl,rfl⟩)
  |(go_at_call 58;refine(a4.O _ oR).mono ?_;unfold qj;rw[bk.O];rintro a bq ⟨cf,cg,rfl,bb⟩;have a5:=hD bb;clear bb)
  |fail)
 clear D E;obtain⟨D,E⟩:=a6.O _ a5.O;have c4:=bo.O _ a5.O;go_upto_region 9 with fail;obtain⟨f,ad⟩:=eX (bq.alloc (.cells #[.slice none 0 0] 24));rw[<-ad];have bc:ac k f:=by rw[ad];exact a5.O.alloc _
 have m:=hD bc;clear c4 D E ad bc;obtain⟨D,E⟩:=a6.O _ m.O;have c3:=aw.O _ m.O;go_upto_region 11 with fail;clear c3
 have K:Hd (∀W,aa (λb=>b=L.gb) f W->aa (λb=>b=L.gb) f W/\W.cell? ⟨L.pb,5,none⟩=some (.map (some L.gb))/\W.cell? ⟨u,0,none⟩=some (.slice A n c)):=hD λW e=>by
  have ci:=V.O f m.O;have c8:L.pb<f.heap.size:=lL (R.O.p1 (by decide)).2.lt (aE.O.trans m.O).size
  have c5:L.pb≠L.gb:=λa=>by
   have a8:=(R.O.p1 (by decide)).1;rw[a,v.O] at a8;exact absurd a8 (by decide)
  have c2:u<k.heap.size:=by rw[a3.O,<-b1.O];simp
  have c6:u≠L.gb:=λa=>by
   have:=R.O.tlt L.gb (by rw[v.O];decide);rw[<-a,a3.O] at this;omega
  exact⟨e,(e.I (p:=⟨L.pb,5,none⟩) c8 c5).trans D,(e.I (p:=⟨u,0,none⟩) (lL c2 m.O.size) c6).trans E⟩
 have ch:=K.O f oR;have bm:Hd (L.pn<maxLen):=hD (by have:=bp.O.2;unfold maxLen;omega);clear D E
 go_region_held3 (λw'=>aa (λb=>b=L.gb) f w'/\w'.cell? ⟨L.pb,5,none⟩=some (.map (some L.gb))/\w'.cell? ⟨u,0,none⟩=some (.slice A n c))
  (first|exact K.O _ (yt ‹_›)|exact K.O _ (aa.drew (yt ‹_›))|exact K.O _ (aa.trans (aa.drew oR) (aa.mono (S:=λ_=>False) y.O λ_ a=>a.elim))|exact K.O _ (aa.trans (aa.trans (aa.drew oR) (aa.mono (S:=λ_=>False) y.O λ_ a=>a.elim)) P)|fail)
  (first
   |(go_at_call 59;refine(a2.O _ (m.O.trans (aa.drew oR))).mono ?_;rintro a a7 ⟨av,c',rfl,b3,bf⟩;unfold aM;have y:=hD bf;have bn:=hD b3;clear bf b3)
   |(refine qE (V.O _ ((m.O.trans (aa.drew oR)).trans y.O)) oI Tryz.underlying116 b0.O.2.2.2.2 bm.O ?_;intro br b4 P)
   |fail)
 go_wp2_with fail;go_ret;obtain⟨N,X,C,Z,a1⟩:=b0.O;have ba:ac w f.drew:=aE.O.trans (m.O.trans (aa.drew oR));have B:aY f.drew tag L s:=R.O.U ba;have bx:=B.part (i:=4) (y.O.mono λ_ a=>a.elim);have c7:aa (λb=>tag b=4) f.drew a7:=y.O.mono λ_ a=>a.elim
 have a9:cS tag f.drew a7 4 L.gb=8:=by rw[bL B.tlt _ (by rw[v.O];decide)];exact v.O
 have bz:=bx.same (i:=8) (P.mono λb a=>by rw[a];exact a9)
 have c0:aX [4,8] br (cS tag f.drew a7 4) L s:=bz.mono λj _ a0=>by
  simp only[yG,zV,or_false] at a0 ⊢;omega
 have c1:(gI .u64 (λi=>(s.progs i).map λq=>aM q (L.pA i).1 (L.pA i).2) (.int .u64 j)).isSome=false:=by rw[nh,C];rfl
 rw[yb (by rw[c1];decide),AJ] at b4;have bv:=c0.fillJ (j:=j) (p:=p) (A:=av) (c:=c') (n':=L.pn+1) (λi q c9=>?_) ?_ C ⟨a9,b4⟩ Z
 ·refine⟨_,av,c',L.pn+1,rfl,bv,((aQ.U ba).trans (aQ.part B.tlt (by decide) c7)).trans (aQ.same (i:=8) (by decide) (P.mono λb a=>by rw[a];exact a9)),lR⟩
 ·have Q:=((B.p4 (by decide) i q c9).kp y.O nG).kp P (λb l a=>by rw[a,v.O] at l;exact absurd l (by decide))
  exact Q.mo λb l=>by rw[bL B.tlt _ (by rw[l];decide)];exact l
 ·have Q:=bn.O.kp P (λb l a=>by
   have a8:=B.tlt L.gb (by rw[v.O];decide);have bt:=l.1;rw[a] at bt;omega)
  exact Q.mo λb l=>fS l
end
theorem Fm:∃i z,Tryz.prog.info? 58=some i/\i.zero=some z/\i.size=2/\i.bytes=24/\z.cells.size=2:=by
 have a:(Tryz.prog.info? 58).map (λi=>(i.zero.map λz=>z.cells.size,i.size,i.bytes))=some (some 2,2,24):=by kernel_rfl
 cases hi:Tryz.prog.info? 58 with
 |none=>rw[hi] at a;cases a
 |some i=>
  rw[hi] at a;simp only[yU,yC,yP] at a
  cases hz:i.zero with
  |none=>rw[hz] at a;cases a.1
  |some z=>
   rw[hz] at a;exact⟨i,z,rfl,hz,a.2.1,a.2.2,yz a.1⟩
theorem zS{P:Array Oper}{o:Oper}{a:Act}{W:World}{f:Act->World->Prop}{Q:Exit->Act->World->Prop}{p:Prop}{q:Nat}{j:Int}{kp:ByteArray}(y:o.guard=none)(s x:Operand)
 (B:o.op=.call {callee:=.builtin .append,args:=#[s,x],argTypes:=#[63,63]}) (C:a.eval s=.slice none 0 0) (E:a.eval x=.slice (some ⟨q,0,none⟩) 1 1)
 (l:ae W q 58 #[.int .u64 j,.string kp])
 (t:∀g c w',w'.ownsRow 0 58 2 (.slice (some ⟨g,0,none⟩) 1 c) 1 [.int .u64 j,.string kp]->ac W w'->W.heap.size<=g->f (a.put o.dst (.slice (some ⟨g,0,none⟩) 1 c)) w'):
 if Region.wanted o (yielded P a.tmps)=true then Oper.wp Tryz.prog o a W f Q else p:=by
 obtain⟨i,z,A,F,D,v,H⟩:=Fm;refine gZ W y s x 63 B 0 58 i z 2 24 Tryz.underlying63 A F D v H (by decide) (.slice none 0 0) 0 [] C ⟨rfl,.inl ⟨rfl,rfl⟩⟩ W.heap.size (some ⟨q,0,none⟩) 1 1 [.int .u64 j,.string kp] E ⟨rfl,λ_=>⟨⟨q,0,none⟩,rfl,l.lt,λj u e=>?_⟩⟩ (λu e=>by simp at e;rcases e with rfl|rfl<;>rfl) (by unfold maxLen;decide) (by decide) (yx _) (λR w' m K N=>?_)
 ·rw[bg,yq,l.I]
  rw[<-zi] at e;exact e
 ·obtain⟨g,c,rfl⟩:=mx m
  refine t g c w' m (oR.grown K (λk b=>by cases b)) ?_
  rcases N with b|b
  ·cases b
  ·exact zl (yz b).symm
def Ci(W8 wx:World)(L:cN)(j:Int)(kp:ByteArray):Prop:=∃g c,ae wx L.pb 123 (bJ {L with qv:=.slice (some ⟨g,0,none⟩) 1 c})/\wx.ownsRow 0 58 2 (.slice (some ⟨g,0,none⟩) 1 c) 1 [.int .u64 j,.string kp]/\W8.heap.size<=g/\aa (λb=>b=L.pb) W8 wx
theorem EX{W8 w':World}{L:cN}{j:Int}{kp:ByteArray}{g c:Nat}(kb:ae w' L.pb 123 (bJ L))(l:w'.ownsRow 0 58 2 (.slice (some ⟨g,0,none⟩) 1 c) 1 [.int .u64 j,.string kp])(f:ac W8 w')(k:W8.heap.size<=g)(m:L.pb<W8.heap.size):Ci W8 (w'.setCell ⟨L.pb,6,none⟩ (.slice (some ⟨g,0,none⟩) 1 c)) L j kp:=by
 have e:=af w' L.pb 6 (.slice (some ⟨g,0,none⟩) 1 c);refine⟨g,c,?_,e.owns l (λb i a=>?_),k,(f.mono λ_ a=>a.elim).trans e⟩
 ·have:=kb.s_ 6 (.slice (some ⟨g,0,none⟩) 1 c)
  simpa[bJ] using this
 ·have:g=b:=by simpa[Value.ownBlock] using i
  omega
theorem xb{w k l W8 W9:World}{tag:Nat->Nat}{L:cN}{s:PS}{j:Int}{x:aj}{kp:ByteArray}{E:Int}{H:Nat}(ad:kp=sB x.M)(ai:E=(x.fuel:Int))(am:dE ⟨j,x.M⟩)(an:s.queue= [])(v:aY k tag L s)(aw:ac w k)
 (a0:kQ k.drew l (λb=>tag b=2) L.tb L.mb L.most s.T.rw s.T.ks.length L.rp ⟨j,x.M⟩ x false) (R:aa (λb=>tag b=2) k l) (Q:tag L.ob=14) (P:tag L.pb=1)
 (a1:aS Tryz.prog W8 58 L.ob (eE (ax (λn=>(s.roots n).map (Value.int .i64)) ⟨j,x.M⟩ (some (.int .i64 (E+1))))) H) (S:aa (λb=>b=L.ob) l W8) (a2:Ci W8 W9 L j kp):
 ∃tag' L',aY W9 tag' L' (en s ⟨j,x.M⟩ x)/\aQ w W9 tag tag'/\(L'.pb=L.pb/\L'.most=L.most/\L'.tps=L.tps/\L'.n=L.n/\L'.fn=L.fn/\L'.dn=L.dn):=by
 obtain⟨q,b3,b4,ar⟩:=a0;have a3:=ar ⟨x,1,0,⟨0,0⟩,false,0,false⟩ rfl rfl rfl rfl rfl;have N:=v.part (i:=2) R;obtain⟨e,y⟩ :∃t,t=cS tag k l 2:=⟨_,rfl⟩
 rw[<-y] at N;have cE:∀b,tag b≠0->e b=tag b:=λb o=>by rw[y];exact bL v.tlt b o
 have a4:bS l (λb=>e b=2) L.tb L.mb L.most (iH s.T ⟨j,x.M⟩ x).rw (iH s.T ⟨j,x.M⟩ x).ks.length (λf=>open Classical in if f=⟨j,x.M⟩ then q else L.rp f):=by
  have a:(iH s.T ⟨j,x.M⟩ x).ks.length=s.T.ks.length+1:=by simp[iH]
  rw[a];refine bS.mo a3 λb o=>?_
  rw[y];exact kK v.tlt (by decide) b (o.imp id λa=>a)
 have Y:=N.fill2 (T':=iH s.T ⟨j,x.M⟩ x) a4 rfl;have B:e L.ob=14:=by rw[cE _ (by rw[Q];decide)];exact Q
 have u:e L.pb=1:=by rw[cE _ (by rw[P];decide)];exact P
 have a6:=Y.same (i:=14) (S.mono λb a=>by rw[a];exact B)
 have av:(λf=>((ax s.roots ⟨j,x.M⟩ (some ((x.fuel:Int)+1))) f).map (Value.int .i64))=ax (λn=>(s.roots n).map (Value.int .i64)) ⟨j,x.M⟩ (some (.int .i64 (E+1))):=by
  funext f
  by_cases a:f=⟨j,x.M⟩
  ·subst a
   rw[ay,ay,ai];rfl
  ·rw[ag _ _ a,ag _ _ a]
 have m:=a6.fill14 (ro':=ax s.roots ⟨j,x.M⟩ (some ((x.fuel:Int)+1))) (c:=H) ⟨B,by rw[av];exact a1⟩;obtain⟨g,c,V,z,a8,F⟩:=a2;have a7:=m.kp (i:=1) (tag':=cS e W8 W9 6) F (λb a=>by rw[a];exact u) (bL m.tlt) (sf m.tlt F.size);have a9:g<W9.heap.size:=pE z rfl
 have a5:aX [1,6] W9 (cS e W8 W9 6) _ _:=a7.mono λi _ p=>by
  simp only[yG,zV,or_false] at p ⊢;omega
 have Z:=a5.fillQ (qv':=.slice (some ⟨g,0,none⟩) 1 c) (q':=[⟨j,x.M⟩]) ⟨by rw[bL m.tlt _ (by show e L.pb≠0;rw[u];decide)];exact u,V⟩ ⟨.inr ?_,λn al=>by rw[yw.1 al];exact am⟩
 ·have a:en s ⟨j,x.M⟩ x= {s with T:=iH s.T ⟨j,x.M⟩ x,roots:=ax s.roots ⟨j,x.M⟩ (some ((x.fuel:Int)+1)),queue:=[⟨j,x.M⟩]}:=by
   unfold en;rw[an];rfl
  rw[a];refine⟨_,_,Z,((aQ.U aw).trans (aQ.part v.tlt (by decide) R)).trans ?_,⟨rfl,rfl,rfl,rfl,rfl,rfl⟩⟩;rw[<-y];exact(aQ.same (i:=14) (by decide) (S.mono λb a=>by rw[a];exact B)).trans ⟨F.mono λb a=>by rw[a,u];decide,bL m.tlt,kL⟩
 ·rcases z.2 with⟨A,_⟩|⟨b2,az,cur,A,aE,K,W,X,b0,b1⟩
  ·cases A
  ·cases A
   refine⟨g,0,c,cur,rfl,fS ⟨a8,a9⟩,K,W,by omega,X,λi n p=>?_⟩
   have ab:i=0/\n=⟨j,x.M⟩:=by
    cases i with
    |zero=>simp at p;exact⟨rfl,p.symm⟩
    |succ i=>simp at p
   obtain⟨rfl,rfl⟩:=ab;have C:=World.ownsRow.cells z (g:=g) rfl 0 (.int .u64 j) rfl;have D:=World.ownsRow.cells z (g:=g) rfl 1 (.string kp) rfl;rw[bg] at C D;have o:ae W9 g 58 cur:=K;rw[o.I] at C D;refine⟨?_,?_⟩
   ·simpa using C
   ·rw[<-ad]
    simpa using D
def FT(w w':World)(tag:Nat->Nat)(L:cN)(s:PS)(n:Nm)(x:aj)(e:Ending):Prop:=e=.returned (.int .i64 0)/\∃tag' L',aY w' tag' L' (en s n x)/\aQ w w' tag tag'/\(L'.pb=L.pb/\L'.most=L.most/\L'.tps=L.tps/\L'.n=L.n/\L'.fn=L.fn/\L'.dn=L.dn)
def qI(w w':World)(tag:Nat->Nat)(L:cN)(s:PS)(n:Nm)(x:aj)(e:Ending):Prop:=if L.most<(x.fuel:Int)+1 then e=.returned (.int .i64 6)/\ac w w' else FT w w' tag L s n x e
section
variable {w w':World}{tag:Nat->Nat}{L:cN}{s:PS}
theorem BA(R:aY w tag L s)(j:Int)(c7:(Lit.int .u64 j).wf=true)(p:List ah)(cb:s.progs j=some p)(b1:mY p)(x:aj)(D:Option Addr)(K:Nat)(ad:Nat->Prop)(d8:∀b,ad b->b<w.heap.size/\tag b=0)(bz:aJ w ad D x.args)(c2:cC p x)(da:x.args.length<=100000)(e3:s.T.rw ⟨j,x.M⟩=none)(e4:∀n,s.roots n=none)(dz:L.on=0)(e2:L.qv=.slice none 0 0)(e1:s.queue= [])(dn:(s.T.ks.length:Int)<L.most)(dk:(x.fuel:Int)+1<=1000000)(dr:L.most<=1000000):
 Calls Tryz.prog 29 #[ptr L.pb,.int .u64 j,.agg (bX x D K)] w λe w'=>qI w w' tag L s ⟨j,x.M⟩ x e:=by
 obtain⟨al,b5⟩ :∃n,n=x.args.length:=⟨_,rfl⟩
 obtain⟨kp,b8⟩:=eX (sB x.M);obtain⟨i,b9⟩:=eX ((x.fuel:Int):Int);obtain⟨a7,b7⟩:=eX (x.fn:Int);obtain⟨q,b2⟩:=eX (w.alloc (.cells #[.string kp,.int .i64 a7,.slice D al K,.int .i64 i] 30));obtain⟨bv,c6⟩ :∃g,g=w.heap.size:=⟨_,rfl⟩
 have H:ac w q:=by rw[b2];exact oR.alloc _
 have a1:ae q bv 30 #[.string kp,.int .i64 a7,.slice D al K,.int .i64 i]:=by rw[b2,c6];exact bN
 have dw:dE ⟨j,x.M⟩:=⟨c7,c2.pth⟩
 have cB:=hD (kD (R.U H));obtain⟨f8,dq⟩:=R.p8 (by decide);have a5:keyOf Tryz.prog 54 (.int .u64 j)=some (.int .u64 j):=Maps.keyOf_int_mk Tryz.underlying54 c7;obtain⟨P,X,c1⟩ :∃P X,L.pA j=(P,X):=⟨_,_,rfl⟩
 have dp:(Instr.lookup 116 (.map (some L.gb)) (.int .u64 j) true).run Tryz.prog q=.ok (.tuple #[.agg #[.slice P p.length X],.bool true]) q:=by
  have:=(dq.only H nF).look2 (t:=116) oI Tryz.underlying116 (z:=.agg #[.slice none 0 0]) (by kernel_rfl) a5;rw[nh,cb] at this;simp only[yU,c1] at this;exact this
 obtain⟨e6,c8⟩:=eX p.length;have c4:=R.p4 (by decide) j p cb;rw[c1] at c4;have ai:Hd (∀W,ac q W->Calls Tryz.prog 62 #[aM p P X,.agg (bX x D K)] W λe w'=>Ch W w' p x e):=hD λW f=>uY p P D X K (λb=>tag b=4) ad x W (c4.kp (H.trans f) nG) (λb c3=>lL (R.tagB (by decide) b c3) (H.trans f).size) b1.ck b1.ok b1.wf (bz.kp (H.trans f) nG) c2
 have e0:=(R.p1 (by decide)).2;have u:Hd (∀W,ac q W->ae W L.pb 123 (bJ L)/\ae W bv 30 #[.string kp,.int .i64 a7,.slice D al K,.int .i64 i]):=hD λW f=>⟨(H.trans f).J e0 nF,f.J a1 nF⟩
 have d1:=hD b2.symm;have bf:=hD c6;have N:=hD H;have E:=hD R;have l:=hD (aI b8 (aI b9 (aI b7 b5)));have an:=hD dw;have k:=hD (aI e3 (aI e4 (aI dz (aI e2 (aI e1 (aI dn (aI dk dr)))))));have cv:=hD (aI bz (aI da d8));unfold aM bX at ai;unfold bX ptr;unfold ptr at cB;rw[<-c8,<-b8,<-b9,<-b7,<-b5] at ai;rw[<-b8,<-b9,<-b7,<-b5];rw[<-c8] at dp;have d7:=(u.O q oR).1.I 5;have A:=a1.I 0;have Y:=a1.I 1;have Z:=a1.I 2;have B:=a1.I 3;simp[bJ] at d7 A Y Z B;clear R c7 cb b1 d8 bz c2 da e3 e4 dz e2 e1 dn dk dr b5 b8 b9 b7 b2 c6 H a1 dw f8 dq a5 c1 c8 c4 e0;go_enter Tryz.func29,Tryz.ntmps29;go_upto_region 1 with fail;rw[d1.O,<-bf.O]
 go_upto_region 6 with(first
  |(go_at_call 44;refine cB.O.mono ?_;rintro e go ⟨rfl,rfl⟩)
  |fail)
 obtain⟨W2,b3⟩:=eX (q.alloc (.cells #[.slice P e6 X] 24));obtain⟨f3,c5⟩ :∃g,g=q.heap.size:=⟨_,rfl⟩
 rw[<-b3,<-c5];have o2:ac q W2:=by rw[b3];exact oR.alloc _
 have d4:ae W2 f3 24 #[.slice P e6 X]:=by rw[b3,c5];exact bN
 have bm:=hD o2;have ej:=d4.I 0;simp at ej;clear A Y Z B d7 dp b3 c5 o2 d4 d1;have db:=(u.O W2 bm.O).2;obtain⟨A,Y,Z,B⟩:=db.gE4;clear db
 go_upto_region 9 with(first
  |(go_at_call 62;refine(ai.O _ bm.O).mono ?_;rintro e av ⟨gf,fp,rfl,_,e7⟩;have bn:=hD (bm.O.trans e7);clear e7)
  |fail)
 clear A Y Z B ej ai;have dd:=(u.O av bn.O).2;have A:=dd.I 0;simp at A;clear dd;go_upto_region 10 with fail;obtain⟨aw,b4⟩:=eX (av.alloc (.cells #[.int .u64 j,.string kp] 58));obtain⟨y,b6⟩ :∃g,g=av.heap.size:=⟨_,rfl⟩
 rw[<-b4,<-b6];have e8:ac q aw:=by rw[b4];exact bn.O.alloc _
 have d5:ae aw y 58 #[.int .u64 j,.string kp]:=by rw[b4,b6];exact bN
 have bo:=hD e8;have eq:=hD d5
 have ex:Hd (w.heap.size<y):=hD (by
  have m:=(u.O av bn.O).2.lt;rw[bf.O] at m;rw[b6];exact m)
 have c9:=(u.O aw bo.O).1;have ec:=c9.I 2;have ab:=c9.I 12;simp[bJ] at ec ab;have V:=((E.O.p14 (by decide)).2.only (N.O.trans bo.O) nF)
 rw[k.O.2.2.1] at V
 have dl:(eE λn=>(s.roots n).map (Value.int .i64))=λ_=>none:=by
  rw[show(λn=>(s.roots n).map (Value.int .i64))=λ_=>none from by funext n;rw[k.O.2.1 n];rfl];exact kC
 rw[dl] at V;have cw:=hD V;clear A b4 b6 e8 d5 c9 dl V
 go_wp2_with (first|(at_range;refine mV rfl _ 121 rfl 58 3 ix Tryz.underlying121 rfl cw.O ?_;intro a a6 cm fm;have d0:=hD a6;have am:=hD (bo.O.trans cm);have bb:=hD (cm.J eq.O nF);clear a6 cm fm)|fail)
 go_frame
 clear ec ab
 go_loopw [12] (λroom wr=>room=.int .i64 L.most/\a=wr) (λ_ wr=>wr.rangeLeft L.ob aw.heap.size)
 case atStart=>exact⟨rfl,rfl⟩
 case round=>
  obtain⟨rfl,fa⟩:=hrel;subst fa;have a6:=d0.O
  go_wp2_with (first|(at_next;refine n4 (α:=Nm×Int) rfl _ rfl ix (λx=>aW x.1) (λx=>.int .i64 x.2) (λkey v hg=>by cases hg) rfl a6 (λh0 hall=>?_) (λx W2 left2 hg hns hrg2 hlt2 o2 hen=>by cases hg))|fail)
  clear h0 hall a6
  have o:Hd (∀W,ac a W->ac a W/\W.cell? ⟨L.pb,4,none⟩=some (.pointer (some ⟨L.tb,0,none⟩))/\W.cell? ⟨y,0,none⟩=some (.int .u64 j)/\W.cell? ⟨y,1,none⟩=some (.string kp)):=hD λW f=>by
   have fl:=(u.O W (am.O.trans f)).1;have ei:=f.J bb.O nF;exact⟨f,fl.I 4,ei.I 0,ei.I 1⟩
  have cs:Hd (∀W,ac a W->Calls Tryz.prog 51 #[.pointer (some ⟨L.tb,0,none⟩),.agg #[.int .u64 j,.string kp]] W λe w'=>e=.returned (.tuple #[.agg #[.int .u64 0,.string ⟨#[]⟩,.string ⟨#[]⟩,.int .i64 0,.slice none 0 0,.int .i64 0,.int .u8 0,.int .i64 0,.int .i64 0,.int .i64 0],.bool false])/\ac W w'):=hD λW f=>by
   have:=CN ((E.O.U (N.O.trans (am.O.trans f))).p2 (by decide)) an.O k.O.1;unfold aW fe jp at this;rw[<-l.O.1] at this;exact this
  have ar:Hd (ac a (a.alloc (.cells #[.int .u64 0,.string ⟨#[]⟩,.string ⟨#[]⟩,.int .i64 0,.slice none 0 0,.int .i64 0,.int .u8 0,.int .i64 0,.int .i64 0,.int .i64 0] 60))):=hD (oR.alloc _);have bc:Hd (ac a a.drew):=hD (aa.drew oR);have bq:Hd (ac a (a.alloc (.cells #[.int .u64 0,.string ⟨#[]⟩,.string ⟨#[]⟩,.int .i64 0,.slice none 0 0,.int .i64 0,.int .u8 0,.int .i64 0,.int .i64 0,.int .i64 0] 60)).drew):=hD (aa.drew ar.O);have cq:Hd (ae (a.alloc (.cells #[.int .u64 0,.string ⟨#[]⟩,.string ⟨#[]⟩,.int .i64 0,.slice none 0 0,.int .i64 0,.int .u8 0,.int .i64 0,.int .i64 0,.int .i64 0] 60)) a.heap.size 60 #[.int .u64 0,.string ⟨#[]⟩,.string ⟨#[]⟩,.int .i64 0,.slice none 0 0,.int .i64 0,.int .u8 0,.int .i64 0,.int .i64 0,.int .i64 0]):=hD (ae.new a _ _);have d2:Hd (∀W,ac (a.alloc (.cells #[.int .u64 0,.string ⟨#[]⟩,.string ⟨#[]⟩,.int .i64 0,.slice none 0 0,.int .i64 0,.int .u8 0,.int .i64 0,.int .i64 0,.int .i64 0] 60)).drew W->ae W a.heap.size 60 #[.int .u64 0,.string ⟨#[]⟩,.string ⟨#[]⟩,.int .i64 0,.slice none 0 0,.int .i64 0,.int .u8 0,.int .i64 0,.int .i64 0,.int .i64 0]):=hD λW f=>f.J cq.O.drew nF
  have bk:Hd (∀(W:World) (v0 v1 v2 v3 v4 v5 v6 v7 v8 v9:Value),ac a W->ac a ((((((((((W.setCell ⟨a.heap.size,0,none⟩ v0).setCell ⟨a.heap.size,1,none⟩ v1).setCell ⟨a.heap.size,2,none⟩ v2).setCell ⟨a.heap.size,3,none⟩ v3).setCell ⟨a.heap.size,4,none⟩ v4).setCell ⟨a.heap.size,5,none⟩ v5).setCell ⟨a.heap.size,6,none⟩ v6).setCell ⟨a.heap.size,7,none⟩ v7).setCell ⟨a.heap.size,8,none⟩ v8).setCell ⟨a.heap.size,9,none⟩ v9)/\((((((((((W.setCell ⟨a.heap.size,0,none⟩ v0).setCell ⟨a.heap.size,1,none⟩ v1).setCell ⟨a.heap.size,2,none⟩ v2).setCell ⟨a.heap.size,3,none⟩ v3).setCell ⟨a.heap.size,4,none⟩ v4).setCell ⟨a.heap.size,5,none⟩ v5).setCell ⟨a.heap.size,6,none⟩ v6).setCell ⟨a.heap.size,7,none⟩ v7).setCell ⟨a.heap.size,8,none⟩ v8).setCell ⟨a.heap.size,9,none⟩ v9).cell? ⟨L.pb,4,none⟩=some (.pointer (some ⟨L.tb,0,none⟩))/\((((((((((W.setCell ⟨a.heap.size,0,none⟩ v0).setCell ⟨a.heap.size,1,none⟩ v1).setCell ⟨a.heap.size,2,none⟩ v2).setCell ⟨a.heap.size,3,none⟩ v3).setCell ⟨a.heap.size,4,none⟩ v4).setCell ⟨a.heap.size,5,none⟩ v5).setCell ⟨a.heap.size,6,none⟩ v6).setCell ⟨a.heap.size,7,none⟩ v7).setCell ⟨a.heap.size,8,none⟩ v8).setCell ⟨a.heap.size,9,none⟩ v9).cell? ⟨y,0,none⟩=some (.int .u64 j)/\((((((((((W.setCell ⟨a.heap.size,0,none⟩ v0).setCell ⟨a.heap.size,1,none⟩ v1).setCell ⟨a.heap.size,2,none⟩ v2).setCell ⟨a.heap.size,3,none⟩ v3).setCell ⟨a.heap.size,4,none⟩ v4).setCell ⟨a.heap.size,5,none⟩ v5).setCell ⟨a.heap.size,6,none⟩ v6).setCell ⟨a.heap.size,7,none⟩ v7).setCell ⟨a.heap.size,8,none⟩ v8).setCell ⟨a.heap.size,9,none⟩ v9).cell? ⟨y,1,none⟩=some (.string kp)):=hD λW v0 v1 v2 v3 v4 v5 v6 v7 v8 v9 f=>o.O _ (by with_reducible (refine aa.setCell ?_ (Or.inr (lR)) _;refine aa.setCell ?_ (Or.inr (lR)) _;refine aa.setCell ?_ (Or.inr (lR)) _;refine aa.setCell ?_ (Or.inr (lR)) _;refine aa.setCell ?_ (Or.inr (lR)) _;refine aa.setCell ?_ (Or.inr (lR)) _;refine aa.setCell ?_ (Or.inr (lR)) _;refine aa.setCell ?_ (Or.inr (lR)) _;refine aa.setCell ?_ (Or.inr (lR)) _;refine aa.setCell ?_ (Or.inr (lR)) _;exact f))
  have f5:=o.O a oR
  go_cut [16] (λs16 wx=>s16=.bool false/\ac a wx)
  case first=>
   go_region_held3 (λw'=>ac a w'/\w'.cell? ⟨L.pb,4,none⟩=some (.pointer (some ⟨L.tb,0,none⟩))/\w'.cell? ⟨y,0,none⟩=some (.int .u64 j)/\w'.cell? ⟨y,1,none⟩=some (.string kp))
    (first|with_reducible exact bk.O _ _ _ _ _ _ _ _ _ _ _ F.O|with_reducible exact o.O _ F.O|with_reducible exact o.O _ (aa.alloc F.O _)|with_reducible exact o.O _ (aa.drew F.O)|with_reducible exact o.O _ ar.O|with_reducible exact o.O _ (aa.drew ar.O)|with_reducible exact o.O _ (aa.drew oR)|with_reducible exact o.O _ oR|(with_reducible refine o.O _ ?_;with_reducible refine aa.setCell ?_ (Or.inr (lR)) _;repeat (first|with_reducible exact F.O|with_reducible refine aa.setCell ?_ (Or.inr (lR)) _))|fail)
    (first|(go_at_call 51;refine(cs.O _ ?_).mono ?_;(with_reducible first|exact bc.O|exact bq.O|fail);rintro e W8 ⟨rfl,o2⟩;(first|(have F:Hd (ac a W8):=hD (by with_reducible exact aa.trans bc.O o2);clear o2)|(have F:Hd (ac a W8):=hD (by with_reducible exact aa.trans bq.O o2);have ci:=d2.O W8 o2;have fo:=hD ci;obtain⟨fq,fr,fs,ft,fv,fw,fx,g0,g1,g2,g3,g4,g5,g6,g7,g8,g9,ga,gc,ge⟩:=rH ci;clear o2 ci)))|fail)
   all_goals (
    go_wp2_with fail;go_meet)
   all_goals (first
    |(with_reducible refine⟨rfl,?_⟩;with_reducible exact aa.alloc F.O _)
    |(with_reducible refine⟨rfl,?_⟩;with_reducible exact(bk.O W8 _ _ _ _ _ _ _ _ _ _ F.O).1))
  case rest=>
   obtain⟨rfl,cn⟩:=hcut;obtain⟨Q,f6⟩:=eX wc;subst f6;have C:=hD (am.O.trans cn);have er:=hD (cn.J bb.O nF);clear f5 cn o cs ar bc bq cq d2 bk d0 am bb cw;have e5:=(u.O Q C.O).2;have B:=e5.I 3;simp at B;clear e5
   have ba:wrap64 (i+1)=i+1:=by
    have m:=k.O.2.2.2.2.2.2.1;rw[<-l.O.2.1] at m;have f4:(0:Int)<=i:=by rw[l.O.2.1];exact zD _
    unfold wrap64;omega
   by_cases a2:L.most<i+1
   ·have fb:L.most<wrap64 (i+1):=by rw[ba];exact a2
    have es:Hd (L.most<(x.fuel:Int)+1):=hD (by rw[<-l.O.2.1];exact a2);clear ba a2;go_wp2_with fail;go_ret;unfold qI;rw[yf es.O];exact⟨rfl,N.O.trans C.O⟩
   have fb:¬L.most<wrap64 (i+1):=by rw[ba];exact a2
   have f0:Hd (¬L.most<(x.fuel:Int)+1):=hD (by rw[<-l.O.2.1];exact a2);clear ba a2;go_upto_region 20 with fail;have bx:aY Q tag L s:=E.O.U (N.O.trans C.O)
   have f1:Hd (∀W,ac Q W->Calls Tryz.prog 63 #[.pointer (some ⟨L.tb,0,none⟩),.int .u64 j,.agg #[.string kp,.int .i64 a7,.slice D al K,.int .i64 i]] W λe w'=>e=.returned (.int .i64 0)/\kQ W w' (λb=>tag b=2) L.tb L.mb L.most s.T.rw s.T.ks.length L.rp ⟨j,x.M⟩ x false/\aa (λb=>tag b=2) W w'):=hD λW f=>by
    have dm:=bx.U f;have:=FG j x D K ad (λb c3=>dm.tlt b (by rw[c3];decide)) (dm.p2 (by decide)) an.O k.O.1 k.O.2.2.2.2.2.1 k.O.2.2.2.2.2.2.2 (cv.O.1.kp (N.O.trans (C.O.trans f)) nG) cv.O.2.1;unfold bX at this;rw[<-l.O.1,<-l.O.2.1,<-l.O.2.2.1,<-l.O.2.2.2] at this;exact this
   have el:=hD bx;have a3:=u.O Q C.O;have ee:=a3.1.I 4;have A:=a3.2.I 0;have Y:=a3.2.I 1;have Z:=a3.2.I 2;have ek:=a3.2.I 3;simp[bJ,ptr] at ee A Y Z ek;clear bx a3 B
   go_still_tail 6,(by kernel_rfl)
   change wpList _ _ _ _ _ Q.drew
   go_upto_region 23 with(first
    |(go_at_call 63;refine(f1.O _ (aa.drew oR)).mono ?_;rintro e az ⟨rfl,d3,e9⟩;have em:=hD d3;have a4:=hD (aa.trans (aa.drew oR) e9);clear d3 e9)
    |fail)
   have ch:tag bv=0:=gM E.O.tlt (by rw[bf.O];exact lR);have cg:tag y=0:=gM E.O.tlt (Nat.le_of_lt ex.O);have cd:=(E.O.p1 (by decide)).1;have cf:=(E.O.p14 (by decide)).1;have d6:=a4.O.J (u.O Q C.O).2 (λe=>by rw[ch] at e;exact absurd e (by decide));have aE:=a4.O.J er.O (λe=>by rw[cg] at e;exact absurd e (by decide));have bt:=a4.O.J (u.O Q C.O).1 (λe=>by rw[cd] at e;exact absurd e (by decide));have ab:=bt.I 12;have B:=d6.I 3;have a8:=aE.I 0;have a9:=aE.I 1;simp[bJ] at ab B a8 a9
   have f9:wrap64 (i+1)=i+1:=by
    have m:=k.O.2.2.2.2.2.2.1;rw[<-l.O.2.1] at m;have f4:(0:Int)<=i:=by rw[l.O.2.1];exact zD _
    unfold wrap64;omega
   have gm:IntKind.i64.wrap (i+1)=i+1:=(aU _).trans f9;obtain⟨gn,a5⟩:=an.O.key;have V:aS Tryz.prog az 58 L.ob (eE λn=>(s.roots n).map (Value.int .i64)) L.on:=((E.O.p14 (by decide)).2.only (N.O.trans C.O) nF).only a4.O (λe=>by rw[cf] at e;exact absurd e (by decide));obtain⟨W8,ce,c0,ea⟩:=(V.heap (w':=az.drew) rfl).put (t:=121) (v:=.int .i64 (i+1)) ix Tryz.underlying121 a5 (by rw[k.O.2.2.1];unfold maxLen;decide);rw[mQ,iP,k.O.2.1,k.O.2.2.1] at c0;have eb:aa (λb=>b=L.ob) az W8:=aa.trans (aa.drew oR) ea;unfold aW fe at ce;rw[<-l.O.1] at ce;have eL:=hD c0;have bp:=hD eb;have cp:=hD (aI aE bt);have a0:=hD (aI ch (aI cg (aI cd cf)));clear ch cg d6 aE bt a5 V c0 ea eb ee A Y Z ek
   go_still_tail 8,(by kernel_rfl)
   change wpList _ _ _ _ _ az.drew;go_upto_region 24 with fail;clear ce ab B a8 a9 cf;have ds:L.pb≠L.ob:=λe=>by have m:=a0.O.2.2.1;rw[e,a0.O.2.2.2] at m;exact absurd m (by decide)
   have dv:y≠L.ob:=λe=>by have m:=a0.O.2.1;rw[e,a0.O.2.2.2] at m;exact absurd m (by decide)
   have b0:=bp.O.J cp.O.2 ds;have br:=bp.O.J cp.O.1 dv;have ef:=b0.I 6;have a8:=br.I 0;have a9:=br.I 1;simp[bJ,k.O.2.2.2.1] at ef a8 a9;have eg:=(b0.alloc (.cells #[.int .u64 j,.string kp] 58)).I 6;simp[bJ,k.O.2.2.2.1] at eg;have cr:=hD b0;clear ds dv b0 br cd
   go_cut [] (λwx=>Ci W8 wx L j kp)
   case first=>
    go_region_law (
     refine zS (j:=j) (kp:=kp) rfl _ _ rfl rfl rfl (by first|exact bN|exact bN.drew) (λg c w' fd ff fj=>?_);have d9:ac W8 w':=aa.trans (by repeat (first|with_reducible exact oR|with_reducible refine aa.drew ?_|with_reducible refine aa.alloc ?_ _)) ff;have kb:=d9.J cr.O nF;have fk:=kb.I 6;have a7:=kb.fz 6;simp[bJ,k.O.2.2.2.1] at fk;have f7:W8.heap.size<=g:=lT (aa.size (S:=λ_=>False) (by repeat (first|with_reducible exact oR|with_reducible refine aa.drew ?_|with_reducible refine aa.alloc ?_ _))) fj)
    all_goals (
     go_wp2_with fail;go_meet;exact EX kb fd d9 f7 cr.O.lt)
   case rest=>
    have f2:=hD hcut;clear hcut ef eg a8 a9;go_wp2_with fail;go_ret;unfold qI;rw[yb (Int.not_lt.2 f0.O)];exact⟨rfl,xb l.O.1 l.O.2.1 an.O k.O.2.2.2.2.1 el.O (N.O.trans C.O) em.O a4.O a0.O.2.2.2 a0.O.2.2.1 eL.O bp.O f2.O⟩
end
def kE(j:Int)(p:List ah)(x:aj):dg:=λi=>if i=j then some (p,x) else none
theorem vH(j:Int)(p:List ah)(x:aj):kE j p x j=some (p,x):=yf rfl
theorem sD{j b:Int}{p:List ah}{x:aj}(a:kE j p x b≠none):b=j:=by
 unfold kE at a;split at a
 ·assumption
 ·exact absurd rfl a
theorem oN{j b:Int}{p q:List ah}{x y:aj}(a:kE j p x b=some (q,y)):b=j/\q=p/\y=x:=by
 unfold kE at a;split at a
 ·rename_i c
  cases a
  exact⟨c,rfl,rfl⟩
 ·cases a
structure gL(G:dg)(w0 w:World)(d:Int)(tag:Nat->Nat)(L:cN)(s:PS):Prop where
 h:aY w tag L s
 r:ql G s
 known:∀n,s.known n=none
 away:∀n,s.away n=false
 outs:∀m,¬s.T.outs m
 ord:lK s
 U:ac w0 w
 new:∀b,tag b≠0->w0.heap.size<=b
 nn:L.n<=d
 fn:(L.fn:Int)<=d
 nm:(s.nms.length:Int)<=d
 dn:L.dn=s.T.hist
theorem iF.progs'{s:PS}(a:iF s)(f:Int->Option (List ah)):iF {s with progs:=f}:=⟨a.rw,a.ks,a.fm,a.hist,a.outs,a.many,a.ds,a.nlen,a.ths,a.queue,a.nms,a.roots⟩
theorem wL{s:PS}{j:Int}{p:List ah}{x:aj}(g:iF s)(K:s.progs j=some p)(m:∀n,s.known n=none)(o:∀n,s.away n=false)(N:x.M= [])(C:∀y∈s.ds,y.c0<=256)(F:s.ths.length<=8):ql (kE j p x) (en s ⟨j,[]⟩ x)/\lK (en s ⟨j,[]⟩ x)/\∀l,¬(en s ⟨j,[]⟩ x).T.outs l:=by
 have B:aK (kE j p x) s (λ_=>False):=g.inv (λi q y e=>by obtain⟨rfl,rfl,rfl⟩:=oN e;exact K) (λi q y e=>by obtain⟨rfl,rfl,rfl⟩:=oN e;exact N) (λl y q z u e=>by rw[m] at e;cases e);refine⟨⟨B.add (vH j p x) rfl (by rw[g.rw]) (m _) (o _),?_,C,F⟩,⟨λn f i c E=>?_,λn k y a b D=>?_⟩,λl H=>?_⟩
 ·have A:mL s.ds=0:=qD _ λy P=>(g.ds y P).2.2.2.1
  show mL s.ds-((s.T.ks++ [(⟨j,[]⟩ :Nm)]).length:Int)-s.T.hist.length<=0;rw[A,g.ks,g.hist];simp
 ·have v:s.T.fm n=some f:=E
  rw[g.fm] at v
  cases v
 ·have t:s.T.hist=a++(n,k,y) :: b:=D
  rw[g.hist] at t;have:=yl List.length t;simp at this
 ·rcases(g.outs l).1 H with e|e
  ·exact e (m l)
  ·rw[o l] at e;cases e
section
end
end
section
open Go.RowKit Go.Maps Go.Sort
def i9(x:iG):Bool:=decide ((x.r.sa:Int)<=2)||decide ((x.r.sa:Int)=4)
theorem Ba(x:iG)(w:World):Calls Tryz.prog 78 #[.agg (iL x).toArray] w λm w'=>m=.returned (.bool (i9 x))/\ac w w':=by
 unfold i9;unfold iL jo;generalize (x.r.sa:Int)=st;obtain⟨g,b⟩:=eX (w.alloc (.cells #[.int .u64 x.n.job,.string (sB x.n.M),.string (sB x.r.tk.M),.int .i64 x.r.tk.fn,.slice x.A x.r.tk.args.length x.c,.int .i64 (x.r.tk.fuel:Int),.int .u8 st,.int .i64 x.r.opn,.int .i64 x.r.res.v,.int .i64 x.r.res.e] 60));have k:ac w g:=by rw[b];exact(aa.refl _ w).alloc _
 have i:ae g w.heap.size 60 #[.int .u64 x.n.job,.string (sB x.n.M),.string (sB x.r.tk.M),.int .i64 x.r.tk.fn,.slice x.A x.r.tk.args.length x.c,.int .i64 (x.r.tk.fuel:Int),.int .u8 st,.int .i64 x.r.opn,.int .i64 x.r.res.v,.int .i64 x.r.res.e]:=by rw[b];exact bN
 have l:=i.I 6;simp at l;have e:=hD k;have f:=hD b.symm;clear k i b
 by_cases j:st<=2
 ·simp only[j,decide_true,Bool.true_or]
  go_enter Tryz.func78,Tryz.ntmps78;go_upto_region 1 with fail;rw[f.O];go_wp2_with fail;go_ret;exact⟨rfl,e.O⟩
 ·simp only[j,decide_false,Bool.false_or]
  by_cases a:st=4
  ·subst a
   simp only[decide_true];go_enter Tryz.func78,Tryz.ntmps78;go_upto_region 1 with fail;rw[f.O];go_wp2_with fail;go_ret;exact⟨rfl,e.O⟩
  ·have o:(st==4)=false:=bF a
   simp only[a,decide_false];have p:¬st=4:=a;go_enter Tryz.func78,Tryz.ntmps78;go_upto_region 1 with fail;rw[f.O];go_wp2_with fail;go_ret;exact⟨rfl,e.O⟩
theorem FJ{w:World}{g n e base:Nat}{l:List iG}(f:w.ownsRow base 60 10 (.slice (some ⟨g,0,none⟩) n e) l.length (l.flatMap iL)){k:Nat}{x:iG}(c:l[k]?=some x):∀(j:Nat) (v:Value),(iL x)[j]?=some v->w.cell? ⟨g,k*10+j,none⟩=some v:=by
 intro j v hv
 have i:j<10:=by
  have:=(gS hv).1
  rwa [nL] at this
 have m:k<l.length:=(gS c).1;obtain⟨y,a,b⟩:=iD iL nL l (k*10+j) (by omega);rw[show(k*10+j) / 10=k by omega,c] at a
 cases a
 rw[show(k*10+j) % 10=j by omega,hv] at b;have:=World.ownsRow.cells f (g:=g) rfl (k*10+j) v b;rw[bg,yq] at this;exact this
theorem CV(g c base:Nat)(l:List iG)(w:World)(E:w.ownsRow base 60 10 (.slice (some ⟨g,0,none⟩) l.length c) l.length (l.flatMap iL))(u:l.length<=1000):
 Calls Tryz.prog 134 #[.slice (some ⟨g,0,none⟩) l.length c,.func (.func 78) #[] #[]] w λf w'=>f=.returned (.int .i64 (eF i9 l 0))/\ac w w':=by
 obtain⟨r,z⟩:=eX (eF i9 l 0);rw[<-z];have R:=hD z;have P:=hD E;obtain⟨n,x⟩:=eX l.length;rw[<-x] at u ⊢;have C:=hD x;have Q:=hD u;clear z E x u;go_enter Tryz.func134,Tryz.ntmps134;go_wp2_with fail
 go_loopw [8] (λi wr=>∃k:Nat,k<=n/\i=.int .i64 k/\eF i9 (l.drop k) k=r/\ac w wr) (λi _=>n-(intOf i).toNat)
 case atStart=>exact⟨0,yx _,rfl,R.O.symm,oR⟩
 case round=>
  obtain⟨k,T,rfl,e,m⟩:=hrel
  by_cases b:k<n
  ·have Y:(0:Int)<=(k:Int):=dK k
   have S:(k:Int)<(n:Int):=cO b;have H:k<l.length:=by rw[<-C.O];exact b
   have F:l[k]?=some l[k]:=gG H;have a:=FJ (m.owns P.O nG) F;rw[yM H] at e;unfold eF at e;generalize l[k] =y at*;have V:=a 0 _ rfl;have Z:=a 1 _ rfl;have a0:=a 2 _ rfl;have a1:=a 3 _ rfl;have a2:=a 4 _ rfl;have a3:=a 5 _ rfl;have a4:=a 6 _ rfl;have a5:=a 7 _ rfl;have a6:=a 8 _ rfl;have a7:=a 9 _ rfl;rw[yW] at V;obtain⟨q,t⟩:=eX (i9 y:Bool);have o:(if q=true then(k:Int) else eF i9 (l.drop (k+1)) (k+1))=r:=by rw[t];exact e
   have B:Hd (∀W,Calls Tryz.prog 78 #[.agg #[.int .u64 y.n.job,.string (sB y.n.M),.string (sB y.r.tk.M),.int .i64 y.r.tk.fn,.slice y.A y.r.tk.args.length y.c,.int .i64 (y.r.tk.fuel:Int),.int .u8 (y.r.sa:Int),.int .i64 y.r.opn,.int .i64 y.r.res.v,.int .i64 y.r.res.e]] W λf w'=>f=.returned (.bool q)/\ac W w'):=hD λW=>by rw[t];exact Ba y W
   have K:wrap64 ((k:Int)+1)=(k:Int)+1:=cX b Q.O;have p:=hD m;clear e m t F a;go_wp2_with fail;refine(B.O _).mono ?_;rintro f X ⟨rfl,N⟩;have D:=hD (p.O.trans N);clear N B
   cases q
   ·have j:Hd (eF i9 (l.drop (k+1)) (k+1)=r):=hD o
    clear o;go_wp2_with fail;go_roundw
    case rel=>exact⟨k+1,b,by first|exact cK k|exact cH K,j.O,D.O⟩
    case measure=>first|exact aB rfl b|exact aB K b
   ·have j:Hd ((k:Int)=r):=hD o
    clear o;go_wp2_with fail;go_ret;exact⟨by rw[<-j.O];rfl,D.O⟩
  ·have S:¬(k:Int)<(n:Int):=λf=>b (yB.1 f)
   have:k=n:=yT T (yA b);subst this;rw[C.O,zq] at e;have j:=hD e;have p:=hD m;clear e m;go_wp2_with fail;go_ret;exact⟨by rw[<-j.O];rfl,p.O⟩
theorem CP(g c base:Nat)(l:List iG)(w:World)(b:w.ownsRow base 60 10 (.slice (some ⟨g,0,none⟩) l.length c) l.length (l.flatMap iL))(e:l.length<=1000):
 Calls Tryz.prog 79 #[.slice (some ⟨g,0,none⟩) l.length c,.func (.func 78) #[] #[]] w λa w'=>a=.returned (.bool (l.any i9))/\ac w w':=by
 have i:=hD (CV g c base l w b e);rw[<-ma _ l 0];generalize eF i9 l 0=r at*;generalize l.length=n at*;clear b e;go_enter Tryz.func79,Tryz.ntmps79;go_wp2_with fail;refine i.O.mono ?_;rintro a k ⟨rfl,f⟩;have j:=hD f;clear f;go_wp2_with fail;go_ret;exact⟨rfl,j.O⟩
section
variable {G:dg}{w w':World}{tag tag':Nat->Nat}{L L':cN}{s s':PS}{n:Nm}{r:aG}
theorem te.row{b:Ending}(m:te w w' s.T.rw b)(t:s.T.rw n≠none):∃(g c:Nat) (l:List iG),b=.returned (.slice (some ⟨g,0,none⟩) l.length c)/\w'.ownsRow w.heap.size 60 10 (.slice (some ⟨g,0,none⟩) l.length c) l.length (l.flatMap iL)/\ac w w'/\(l.map (·.n)).Nodup/\(∀x∈l,s.T.rw x.n=some x.r)/\(∀n,s.T.rw n≠none->n∈l.map (·.n)):=by
 obtain⟨v,l,e,a,o,p,q,f⟩:=m
 rcases a.2 with⟨_,k⟩|⟨g,i,cur,j,_⟩
 ·have:=f n t
  rw[yr k] at this;simp at this
 ·rw[j] at e a
  exact⟨g,i,l,e,a,o,p,q,f⟩
theorem CT{l:List iG}(e:∀x∈l,s.T.rw x.n=some x.r)(i:∀n,s.T.rw n≠none->n∈l.map (·.n))(k:aK G s (λ_=>False)):l.any i9=false↔s.idle:=by
 rw[zI];constructor
 ·intro b n r c
  obtain⟨x,a,g⟩:=yL.1 (i n (by rw[c];simp));have f:=e x a;rw[g,c] at f
  cases f
  have j:=b x a;obtain⟨p,y,_,_,m⟩:=(k.t.row n _ c).node;have o:=m.lo;simp only[i9,Bool.or_eq_true,zR,not_or] at j;omega
 ·intro b x a
  have:=b _ _ (e x a);simp only[i9,Bool.or_eq_true,zR,not_or];omega
theorem BE(e:aY w tag L s)(i:aK G s (λ_=>False))(m:s.T.rw n≠none)(k:s.T.ks.length<=1000):
 Calls Tryz.prog 38 #[ptr L.pb] w λf w'=>∃b:Bool,f=.returned (.bool b)/\(b=true↔s.idle)/\ac w w':=by
 have o:=(e.p1 (by decide)).2;have W:=o.I 2;have X:=o.I 4;simp[bJ,ptr] at W X;have u:=hD (kD e);have S:=hD (Dy (e.p2 (by decide)) (λb Y=>e.tlt b (by rw[Y];decide)) m (lT k (by decide)));have Q:=hD m;have q:=hD (aI k i.t);have V:=hD i;unfold ptr at u ⊢;clear e o m k i;go_enter Tryz.func38,Tryz.ntmps38
 go_wp2_with (first
  |(go_at_call 44;refine u.O.mono ?_;rintro f N ⟨rfl,rfl⟩)
  |(go_at_call 49;refine S.O.mono ?_;rintro f N B;obtain⟨g,c,l,rfl,C,D,E,F,H⟩:=te.row B Q.O;have a:=hD (aI C (aI D (aI E (aI F H))));clear C D E F H B)
  |fail)
 have A:l.length<=1000:=by
  have y:=mf (l.map (·.n)) s.T.ks a.O.2.2.1 λa2 Z=>by
   obtain⟨x,a0,rfl⟩:=yL.1 Z;exact(q.O.2.ks _).2 (by rw[a.O.2.2.2.1 x a0];simp)
  rw[zY] at y;exact lT y q.O.1
 have p:=hD (CP g c _ l N a.O.1 A);obtain⟨v,j⟩:=eX (l.any i9);rw[<-j] at p;have z:v=false↔s.idle:=by rw[j];exact CT a.O.2.2.2.1 a.O.2.2.2.2 V.O
 have P:=hD z;clear A j z;refine p.O.mono ?_;rintro f a1 ⟨rfl,K⟩;have R:=hD (a.O.2.1.trans K);clear K;go_wp2_with fail;go_ret;exact⟨!v,rfl,by rw[<-P.O];simp,R.O⟩
end
end
section
open Go.RowKit Go.Maps
def dV(s s':PS):Prop:=∃x,s'.T.ks=s.T.ks++x
section
variable {s s' s1:PS}
theorem dV.refl(s:PS):dV s s:=⟨[],by simp⟩
theorem dV.of(a:s'.T.ks=s.T.ks):dV s s':=⟨[],by rw[a];simp⟩
theorem dV.trans(a:dV s s1)(k:dV s1 s'):dV s s':=by
 obtain⟨x,a⟩:=a;obtain⟨y,k⟩:=k;exact⟨x++y,by rw[k,a,yY]⟩
theorem qO(s:PS)(k:Nat)(n:Nm):dV s (dX s k n):=by
 unfold dX;split
 ·exact dV.refl s
 ·split
  ·exact dV.of rfl
  ·exact dV.refl s
theorem DB(s:PS)(k:Nat):dV s (fi s k):=by
 unfold fi;split
 ·simp only
  split
  ·exact dV.of rfl
  ·unfold i5
   split
   ·exact⟨_,rfl⟩
   ·split
    ·exact⟨_,rfl⟩
    ·exact⟨_,rfl⟩
  ·split<;>exact dV.of rfl
  ·split<;>exact dV.of rfl
 ·exact dV.refl s
theorem qg{k e:Nat}(b:dt s k e s'):dV s s':=by
 unfold dt at b;split at b
 ·obtain⟨x,a,s1,g,b⟩:=b
  obtain⟨L',ws',f,_⟩:=g.ex;have c:dV s s1:=by rw[f];exact dV.of rfl
  split at b
  ·rw[b];exact c
  ·rw[b]
   refine c.trans ?_;unfold jg;simp only;split
   ·exact dV.of rfl
   ·split
    ·exact qO (s1.setTh k {s1.th k with act:=none,kn:=0}) k _
    ·split
     ·exact qO {s1.setTh k {s1.th k with act:=none,kn:=0} with queue:=s1.queue.tail} k _
     ·split<;>exact dV.of rfl
 ·split at b
  ·rw[b];exact DB s k
  ·rw[b];exact dV.of rfl
end
def mD(G:dg)(jl:List Int):Nat:=(jl.flatMap (jM G)).length
def Fb(G:dg)(w0 wr:World)(d:Int)(pb:Nat)(most:Int)(nt:Nat)(n0:Nm)(Q:PS->Prop):Prop:=∃tag L s,gL G w0 wr d tag L s/\L.pb=pb/\L.most=most/\s.ths.length=nt/\s.T.rw n0≠none/\Q s
section
variable {G:dg}{w0 w w':World}{d:Int}{tag:Nat->Nat}{L:cN}{s s':PS}{jl:List Int}
theorem gL.bd(a:gL G w0 w d tag L s)(e:∀j,G j≠none->j∈jl)(f:mD G jl<=1000)(i:d<=1000000000):kR L s:=by
 have k:=a.r.inv.t.keys_le jl e;unfold mD at f;obtain⟨b,c⟩:=a.r.bd (by omega);have g:=a.r.inv.t.hist_le;refine⟨b,c,by have:=a.nn;omega,by have:=a.fn;omega,by have:=a.nm;omega,by rw[a.dn];omega,by have:=a.r.th;omega⟩
theorem gL.step{k m:Nat}(a:gL G w0 w d tag L s)(l:k<s.ths.length)(i:dt s k m s')(p:cP w w' tag L s s' 4):∃tag' L',gL G w0 w' (d+4) tag' L' s'/\L'.pb=L.pb/\L'.most=L.most:=by
 obtain⟨tag',L',o,j,c⟩:=p;have f:=nN i;obtain⟨x,t,u⟩:=c.dn;refine⟨tag',L',⟨o,a.r.step l i,λn=>by rw[f.known];exact a.known n,λn=>by rw[f.away];exact a.away n,λq=>by rw[f.outs];exact a.outs q,uP a.ord a.r.inv a.known a.away a.outs l i,a.U.trans' j.only (λb g=>.inr (a.new b g)),λb g=>?_,?_,?_,?_,by rw[u,a.dn,t]⟩,c.pb,c.mz⟩
 ·rcases j.new b g with e|e
  ·exact a.new b e
  ·exact lT a.U.size e
 ·have:=c.nn;have:=a.nn;omega
 ·have:=c.fn;have:=a.fn;omega
 ·have:=c.nm;have:=a.nm;omega
theorem gL.pstep(a:gL G w0 w d tag L s)(m:iN G)(e:∀j,G j≠none->j∈jl)(A:mD G jl<=1000)(o:d<=1000000000)(y:(mD G jl:Int)<=L.most)(z:L.most<=1000000){k:Nat}(v:k<s.ths.length)(c:Nat)(q:c<4294967296):
 Calls Tryz.prog 17 #[ptr L.pb,.int .i64 (k:Int),.int .u32 (c:Int)] w λf w'=>∃b s',f=.returned (.tuple #[.bool b,.int .i64 0])/\dt s k c s'/\cP w w' tag L s s' 4:=
 BK a.h a.r.inv m (a.bd e A o) v c q a.known a.away z (λB p x u g i l=>by
  have:=a.r.inv.t.room jl e g i l;unfold mD at y;omega)
theorem gL.at_(a:gL G w0 w d tag L s)(b:ac w w'):gL G w0 w' d tag L s:=⟨a.h.U b,a.r,a.known,a.away,a.outs,a.ord,a.U.trans b,a.new,a.nn,a.fn,a.nm,a.dn⟩
theorem gL.le{b:Int}(a:gL G w0 w d tag L s)(c:d<=b):gL G w0 w b tag L s:=⟨a.h,a.r,a.known,a.away,a.outs,a.ord,a.U,a.new,by have:=a.nn;omega,by have:=a.fn;omega,by have:=a.nm;omega,a.dn⟩
theorem uc(b:cA G s.T)(c:cA G s'.T)(e:dV s s'){n:Nm}(f:s.T.rw n≠none):s'.T.rw n≠none:=by
 obtain⟨x,a⟩:=e;exact(c.ks n).1 (by rw[a];exact List.mem_append_left _ ((b.ks n).2 f))
theorem CC{a b n k:Int}(c:a+1<=b)(e:b<=n-k):a<=n-(k+1):=by omega
theorem DY{i:Nat}(a:i<4294967296):IntKind.u32.wrap (i:Int)=(i:Int):=by
 simp[IntKind.wrap,IntKind.bits,IntKind.signed];omega
attribute [local simp] eM gw gz dj eD Region.binds ed ey Is ap Act.put
end
end
section
open Go.RowKit Go.Maps
theorem bD.at_{w:World}{F:Nat->Prop}{A:Option Addr}{c n:Nat}{l:List eC}(o:bD w F (.slice A n c) l){i:Nat}{u:eC}(b:l[i]?=some u):∃g,A=some ⟨g,0,none⟩/\∃B k,∀(j:Nat) (v:Value),(gW u (B,k))[j]?=some v->w.cell? ⟨g,i*7+j,none⟩=some v:=by
 obtain⟨a,p,e,y⟩:=o;have q:i<a.length:=by rw[p];exact(gS b).1
 rcases e.2 with⟨_,x⟩|⟨g,t,cur,m,_⟩
 ·have:=(gS b).1
  omega
 ·have f:A=some ⟨g,0,none⟩:=by injection m
  refine⟨g,f,(a[i]).1,(a[i]).2,λj v hv=>?_⟩;have:=World.ownsRow.cells e (g:=g) (by rw[f];rfl) (i*7+j) v (so l a i u a[i] b (gG q) j v hv);rw[bg,yq] at this;exact this
theorem Ax{w:World}{base:Nat}{A:Option Addr}{c n:Nat}{l:List (Nm×Nat×aL)}(b:w.ownsRow base 69 5 (.slice A n c) l.length (l.flatMap gg)){i:Nat}{u:Nm×Nat×aL}(a:l[i]?=some u):∃g,A=some ⟨g,0,none⟩/\∀(j:Nat) (v:Value),(gg u)[j]?=some v->w.cell? ⟨g,i*5+j,none⟩=some v:=by
 rcases b.2 with⟨_,q⟩|⟨g,p,cur,o,_⟩
 ·have:=(gS a).1
  omega
 ·have m:A=some ⟨g,0,none⟩:=by injection o
  refine⟨g,m,λj v hv=>?_⟩;have t:j<5:=(gS hv).1;have x:i<l.length:=(gS a).1;obtain⟨y,e,f⟩:=iD (k:=5) gg (λ_=>rfl) l (i*5+j) (by omega);rw[show(i*5+j) / 5=i by omega,a] at e
  cases e
  rw[show(i*5+j) % 5=j by omega,hv] at f;have:=World.ownsRow.cells b (g:=g) (by rw[m];rfl) (i*5+j) v f;rw[bg,yq] at this;exact this
theorem DX(a:Int)(b:a<1\/4096<a)(w:World):
 Calls Tryz.prog 55 #[.int .i64 a] w λc w'=>c=.returned (.tuple #[.pointer none,.int .i64 2])/\w=w':=by
 by_cases e:a<1
 ·clear b
  go_enter Tryz.func55,Tryz.ntmps55;go_wp2_with fail
  go_ret2
  exact⟨rfl,rfl⟩
 ·have f:4096<a:=b.resolve_left e
  clear b;go_enter Tryz.func55,Tryz.ntmps55;go_wp2_with fail
  go_ret2
  exact⟨rfl,rfl⟩
theorem Cy(e:Nat)(lg:Int)(a:lg<0\/8<lg)(w:World):
 Calls Tryz.prog 57 #[.pointer (some ⟨e,0,none⟩),.int .i64 lg] w λb w'=>b=.returned (.tuple #[.pointer none,.int .i64 2])/\w=w':=by
 by_cases c:lg<0
 ·clear a
  go_enter Tryz.func57,Tryz.ntmps57;go_wp2_with fail
  go_ret2
  exact⟨rfl,rfl⟩
 ·have f:8<lg:=a.resolve_left c
  clear a;go_enter Tryz.func57,Tryz.ntmps57;go_wp2_with fail
  go_ret2
  exact⟨rfl,rfl⟩
def jv(thr lg most:Int):Prop:=thr<1\/8<thr\/lg<0\/8<lg\/most<1\/1024<most
theorem Do(thr lg b:Int)(P:jv thr lg b)(w:World):
 Calls Tryz.prog 25 #[.agg #[.int .i64 thr,.int .i64 lg,.int .i64 b]] w λl w'=>l=.returned (.tuple #[.pointer none,.int .i64 2])/\ac w w':=by
 obtain⟨x,y⟩:=eX (w.alloc (.cells #[.int .i64 thr,.int .i64 lg,.int .i64 b] 40));obtain⟨a2,B⟩ :∃g,g=w.heap.size:=⟨_,rfl⟩
 have T:ac w x:=by rw[y];exact oR.alloc _
 have A:ae x a2 40 #[.int .i64 thr,.int .i64 lg,.int .i64 b]:=by rw[y,B];exact bN
 have u:=hD y.symm;have q:=hD B;have t:=hD T;have v:=hD A;have X:=hD P;obtain⟨c,e,f⟩:=A.gE3;clear y B T A P
 by_cases C:b<1\/4096<b
 ·have j:=hD (DX b C x)
  clear C;go_enter Tryz.func25,Tryz.ntmps25;go_upto_region 1 with fail;rw[u.O,<-q.O];go_wp2_with fail;refine j.O.mono ?_;rintro l o ⟨rfl,rfl⟩;go_wp2_with fail
  go_ret2
  exact⟨rfl,t.O⟩
 have z:1<=b/\b<=4096:=by omega
 have j:=hD (uV b z.1 z.2 x);unfold wm at j;have Z:=hD z;clear C z
 by_cases a8:thr<1
 ·skip
  go_enter Tryz.func25,Tryz.ntmps25;go_upto_region 1 with fail;rw[u.O,<-q.O];go_wp2_with fail;refine j.O.mono ?_;rintro l o ⟨F,D,rfl,p,a⟩;have m:=hD a;have k:=a.J v.O nF;clear c e f p a;obtain⟨c,e,f⟩:=k.gE3;go_wp2_with fail
  go_ret2
  exact⟨rfl,t.O.trans m.O⟩
 by_cases a9:8<thr
 ·skip
  go_enter Tryz.func25,Tryz.ntmps25;go_upto_region 1 with fail;rw[u.O,<-q.O];go_wp2_with fail;refine j.O.mono ?_;rintro l o ⟨F,D,rfl,p,a⟩;have m:=hD a;have k:=a.J v.O nF;clear c e f p a;obtain⟨c,e,f⟩:=k.gE3;go_wp2_with fail
  go_ret2
  exact⟨rfl,t.O.trans m.O⟩
 by_cases ab:1024<b
 ·skip
  go_enter Tryz.func25,Tryz.ntmps25;go_upto_region 1 with fail;rw[u.O,<-q.O];go_wp2_with fail;refine j.O.mono ?_;rintro l o ⟨F,D,rfl,p,a⟩;have m:=hD a;have k:=a.J v.O nF;clear c e f p a;obtain⟨c,e,f⟩:=k.gE3;go_wp2_with fail
  go_ret2
  exact⟨rfl,t.O.trans m.O⟩
 have S:lg<0\/8<lg:=by
  have a3:=X.O;have a6:=Z.O;unfold jv at a3;omega
 have a7:(0:Int)<thr:=by omega
 have Y:=hD S;have a4:=@run_makeMap Tryz.prog;clear S;go_enter Tryz.func25,Tryz.ntmps25;go_upto_region 1 with fail;rw[u.O,<-q.O]
 go_upto_region 2 with(go_at_call 55;refine j.O.mono ?_;rintro l o ⟨F,D,rfl,p,a⟩;have m:=hD a;have k:=a.J v.O nF;have H:=hD k;clear p a k)
 clear c e f j;obtain⟨c,e,f⟩:=H.O.gE3;go_upto_region 5 with fail;generalize Q:((((((o.alloc (.map #[] 0)).alloc (.map #[] 0)).alloc (.map #[] 0)).alloc (.map #[] 0)).alloc (.map #[] 0)).alloc (.map #[] 0)).alloc (.map #[] 0)=K;have V:ac o K:=by rw[<-Q];exact((((((oR.alloc _).alloc _).alloc _).alloc _).alloc _).alloc _).alloc _
 have a0:=hD V;clear Q V a4
 go_upto_region 6 with(go_at_call 56;refine(vF _).mono ?_;rintro l ad ⟨rfl,rfl⟩)
 generalize R:World.alloc (World.alloc K _) _=N;have E:ac o N:=by rw[<-R];exact(a0.O.alloc _).alloc _
 have a1:=hD E;have W:=hD (E.J H.O nF);clear R E c e f;obtain⟨c,e,f⟩:=W.O.gE3;go_wp2_with fail
 go_loopw [47] (λi wr=>i=.int .i64 0/\wr=N) (λi _=>0)
 case atStart=>exact⟨rfl,rfl⟩
 case round=>
  obtain⟨rfl,rfl⟩:=hrel;go_wp2_with fail;refine(Cy _ lg Y.O _).mono ?_;rintro l a5 ⟨rfl,rfl⟩;go_wp2_with fail
  go_ret2
  exact⟨rfl,(t.O.trans m.O).trans a1.O⟩
end
end Go.Proofs.YtmdocplknceilaaGreat
