import Derived.Test.YtmdocplknceilaaGreatRWAV
import Derived.Lib.SmallJoins
import Derived.ProofKit
import Derived.OpenShut
set_option linter.all false
set_option maxRecDepth 100000
namespace Go.Proofs.YtmdocplknceilaaGreat
section
open Go.RowKit Go.WideShapes Go.ChangeShapes Go.ChangeAt Go.Joins
theorem Cs:Tryz.prog.cellsOf 2=1:=by kernel_rfl
theorem tF:Tryz.prog.cellsOf 106=5:=by kernel_rfl
theorem tE:Tryz.prog.cellsOf 99=3:=by kernel_rfl
theorem Cu:Tryz.prog.cellsOf 24=1:=by kernel_rfl
section
variable {H:Type}{enc:TypeId×Value->H}{W:World}{base:Nat}{spare:Nat->Bool}{held:Bool}{fuel:Nat}{A:Option Addr}{len cap:Nat}{x:DataW H×List MemPlace}
theorem Bs(d:DataW.trod enc Tryz.prog W base spare held fuel 25 [.slice A len cap] =some x):∃ps:List Int,ps.length=len/\bP W W.heap.size 1 A len (ps.map (.int .i64))/\∀z∈ps,dy z:=by
 rcases open_ints Tryz.underlying25 Tryz.underlying2 Cs d with⟨a,_⟩|⟨g,r,n,c,a,_,o,p,b,_,e,m⟩
 ·simp at a
  obtain⟨rfl,rfl,rfl⟩:=a;exact⟨[],rfl,bP.none_,λz b=>by cases b⟩
 ·simp at a
  obtain⟨rfl,rfl,rfl⟩:=a;have q:len<=c.length:=by rw[b];split<;>omega
  have f:(c.take len).length=len:=by rw[ze];omega
  refine⟨c.take len,f,?_,λz b=>bounds_i64 (m z (List.mem_of_mem_take b))⟩
  by_cases i:len=0
  ·subst i;exact⟨by simp,λd=>by omega⟩
  ·have l:g.block<W.heap.size:=by have:=block_lt_of_cell (e 0 (by omega));rwa [lS] at this
   refine xr f l (λj k=>?_);rw[e j (by omega)];simp[List.getD,k]
theorem oS{α:Type}(P:Nat->α->Prop)(d:α):∀(n:Nat),(∀i,i<n->∃s,P i s)->∃l:List α,l.length=n/\∀(i:Nat) (s:α),l[i]?=some s->P i s:=by
 intro n
 induction n with
 |zero=>intro _;exact⟨[],rfl,λi s b=>by simp at b⟩
 |succ n j=>
  intro c;obtain⟨l,f,g⟩:=j (λi e=>c i (by omega));obtain⟨s,b⟩:=c n (by omega);refine⟨l++ [s],by simp[f],λi u a=>?_⟩
  by_cases e:i<l.length
  ·rw[yi e] at a
   exact g i u a
  ·rw[yK (by omega)] at a
   have:i-l.length=0:=by
    have:=(gS a).1;simp at this;omega
   rw[this] at a;simp at a;subst a;have:i=n:=by omega
   rw[this];exact b
theorem tx(b o k:Nat):(⟨b,o,none⟩ :Addr).add k=⟨b,o+k,none⟩:=by unfold Addr.add;split<;>simp_all
theorem Dg(L:DataW.trod enc Tryz.prog W base spare held fuel 97 [.slice A len cap] =some x):∃s:List bK,s.length=len/\jK W (λb=>b<W.heap.size) A s/\∀o∈s,jz o/\dy o.n:=by
 rcases fW Tryz.underlying97 Tryz.underlying106 (by kernel_rfl) tF L with⟨f,_⟩|⟨a,am,a9,Y,a7,a8,f,_,ad,al,T,_,C⟩
 ·simp at f
  obtain⟨rfl,rfl,rfl⟩:=f;exact⟨[],rfl,.inl ⟨trivial,rfl⟩,λo d=>by cases d⟩
 ·simp at f
  obtain⟨rfl,rfl,rfl⟩:=f;have ai:len<=Y:=by rw[T];split<;>omega
  by_cases N:len=0
  ·subst N;exact⟨[],rfl,.inl ⟨trivial,rfl⟩,λo d=>by cases d⟩
  obtain⟨b,c,Z⟩:=a
  have X:Z=none:=by
   obtain⟨b5,n',_,_,_,R⟩:=C 0 (by omega);obtain⟨an,az,c',_⟩:=R 0 _ rfl;have V:=World.cell?_spot c'
   simpa[Addr.add] using V
  subst X
  have Q:∀i,i<len->∃o:bK,(b<W.heap.size/\∀(j:Nat) (v:Value),(eR o)[j]?=some v->W.cell? ⟨b,c+i*5+j,none⟩=some v)/\jz o/\dy o.n:=by
   intro i ab;obtain⟨b4,n,_,_,_,g⟩:=C i (by omega);obtain⟨v0,aE,e,_,D⟩:=g 0 _ rfl;obtain⟨v1,b0,m,_,E⟩:=g 1 _ rfl;obtain⟨v2,b1,p,_,F⟩:=g 2 _ rfl;obtain⟨v3,b2,q,_,G⟩:=g 3 _ rfl;obtain⟨v4,b3,r,_,K⟩:=g 4 _ rfl;replace e:W.cell? ((⟨b,c,none⟩ :Addr).add (i*5+0))=some v0:=e;replace m:W.cell? ((⟨b,c,none⟩ :Addr).add (i*5+1))=some v1:=m;replace p:W.cell? ((⟨b,c,none⟩ :Addr).add (i*5+2))=some v2:=p;replace q:W.cell? ((⟨b,c,none⟩ :Addr).add (i*5+3))=some v3:=q;replace r:W.cell? ((⟨b,c,none⟩ :Addr).add (i*5+4))=some v4:=r;obtain⟨a2,t,_,a0⟩:=DataW.trod_int Tryz.underlying5 D;obtain⟨a3,u,_,ar⟩:=DataW.trod_int Tryz.underlying3 E;obtain⟨a4,w,_,av⟩:=DataW.trod_int Tryz.underlying3 F;obtain⟨a5,y,_,aw⟩:=DataW.trod_int Tryz.underlying3 G;obtain⟨a6,z,_,a1⟩:=DataW.trod_int Tryz.underlying2 K;simp only[List.cons.injEq,and_true] at t u w y z;subst t u w y z;rw[tx] at e m p q r;refine⟨⟨a2,a3,a4,a5,a6⟩,⟨block_lt_of_cell e,λj v hv=>?_⟩,a0,bounds_i64 a1⟩
   match j,hv with
   |0,hv=>cases hv;rw[zx];exact e
   |1,hv=>cases hv;rw[zx];exact m
   |2,hv=>cases hv;rw[zx];exact p
   |3,hv=>cases hv;rw[zx];exact q
   |4,hv=>cases hv;rw[zx];exact r
   |j+5,hv=>exact absurd (gS hv).1 (by simp[eR])
  obtain⟨l,P,B⟩:=oS (λi (o:bK)=>(b<W.heap.size/\∀(j:Nat) (v:Value),(eR o)[j]?=some v->W.cell? ⟨b,c+i*5+j,none⟩=some v)/\jz o/\dy o.n) ⟨0,0,0,0,0⟩ len Q;refine⟨l,P,.inr ⟨b,c,rfl,λk o d=>(B k o d).1⟩,λo d=>?_⟩;obtain⟨k,S⟩:=yF d;exact(B k o S).2
theorem Df(F:DataW.trod enc Tryz.prog W base spare held fuel 22 [.slice A len cap] =some x):∃p:List ah,p.length=len/\fP W (λb=>b<W.heap.size) A p/\∀x∈p,∀o∈x.ops,jz o/\dy o.n:=by
 rcases fW Tryz.underlying22 Tryz.underlying99 (by kernel_rfl) tE F with⟨d,_⟩|⟨a,V,C,X,a2,a4,d,_,a8,ab,Q,_,w⟩
 ·simp at d
  obtain⟨rfl,rfl,rfl⟩:=d;exact⟨[],rfl,.inl ⟨trivial,rfl⟩,λo f=>by cases f⟩
 ·simp at d
  obtain⟨rfl,rfl,rfl⟩:=d;have a9:len<=X:=by rw[Q];split<;>omega
  by_cases G:len=0
  ·subst G;exact⟨[],rfl,.inl ⟨trivial,rfl⟩,λo f=>by cases f⟩
  obtain⟨b,e,Z⟩:=a
  have S:Z=none:=by
   obtain⟨aE,n',_,_,_,N⟩:=w 0 (by omega);obtain⟨ai,an,c',_⟩:=N 0 _ rfl;have R:=World.cell?_spot c'
   simpa[Addr.add] using R
  subst S
  have L:∀i,i<len->∃y:ah,(b<W.heap.size/\W.cell? ⟨b,e+i*3,none⟩=some (.int .i64 y.args)/\W.cell? ⟨b,e+i*3+1,none⟩=some (.int .i64 y.rg)/\
   ∃B c,W.cell? ⟨b,e+i*3+2,none⟩=some (.slice B y.ops.length c)/\jK W (λb=>b<W.heap.size) B y.ops)/\∀o∈y.ops,jz o/\dy o.n:=by
   intro i a7;obtain⟨az,n,_,_,_,q⟩:=w i (by omega);obtain⟨v0,ar,g,_,D⟩:=q 0 _ rfl;obtain⟨v1,av,j,_,E⟩:=q 1 _ rfl;obtain⟨v2,aw,m,_,s⟩:=q 2 _ rfl;replace g:W.cell? ((⟨b,e,none⟩ :Addr).add (i*3+0))=some v0:=g;replace j:W.cell? ((⟨b,e,none⟩ :Addr).add (i*3+1))=some v1:=j;replace m:W.cell? ((⟨b,e,none⟩ :Addr).add (i*3+2))=some v2:=m;obtain⟨a0,t,_,al⟩:=DataW.trod_int Tryz.underlying3 D;obtain⟨a1,u,_,am⟩:=DataW.trod_int Tryz.underlying3 E;simp only[List.cons.injEq,and_true] at t u;subst t u;rw[tx] at g j m
   obtain⟨B,z,r,rfl⟩ :∃B z r,v2=.slice B z r:=by
    rcases fW Tryz.underlying97 Tryz.underlying106 (by kernel_rfl) tF s with⟨d,_⟩|⟨a6,V,C,ad,a3,a5,d,_⟩
    ·simp at d
     exact⟨_,_,_,d⟩
    ·simp at d
     exact⟨_,_,_,d⟩
   obtain⟨Y,rfl,f,T⟩:=Dg s;exact⟨⟨a0,a1,Y⟩,⟨block_lt_of_cell g,g,by rw[zx];exact j,B,r,by rw[zx];exact m,f⟩,T⟩
  obtain⟨l,K,v⟩:=oS (λi (y:ah)=>(b<W.heap.size/\W.cell? ⟨b,e+i*3,none⟩=some (.int .i64 y.args)/\W.cell? ⟨b,e+i*3+1,none⟩=some (.int .i64 y.rg)/\
   ∃B c,W.cell? ⟨b,e+i*3+2,none⟩=some (.slice B y.ops.length c)/\jK W (λb=>b<W.heap.size) B y.ops)/\∀o∈y.ops,jz o/\dy o.n) ⟨0,0,[]⟩ len L
  refine⟨l,K,.inr ⟨b,e,rfl,λk o f=>(v k o f).1⟩,λo f=>?_⟩;obtain⟨k,P⟩:=yF f;exact(v k o P).2
end
theorem Bt{H:Type}{enc:TypeId×Value->H}{W:World}{r:Reach}{j base:Nat}{spare:Nat->Bool}{held:Bool}{v:Value}{d:DataW H}{q:List MemPlace}
 (hv:Value.okWide Tryz.prog W r j 24 v) (m:∃n,DataW.trod enc Tryz.prog W base spare held n 24 v.cells.toList=some (d,q)):
 ∃(A:Option Addr) (p:List ah) (c:Nat),v=.agg #[.slice A p.length c]/\fP W (λb=>b<W.heap.size) A p/\∀x∈p,∀o∈x.ops,jz o/\dy o.n:=by
 obtain⟨cs,rfl,i⟩:=okWide_struct Tryz.underlying24 hv;rw[Cu] at i
 obtain⟨e,rfl⟩ :∃e,cs= #[e]:=by
  cases cs with|mk l=>match l,i with| [a],_=>exact⟨a,rfl⟩
 obtain⟨n,w⟩:=m;obtain⟨z,y,F,_,s⟩:=trod_struct1 Tryz.underlying24 w
 have g:DataW.trod enc Tryz.prog W base spare held y 22 [e] =some z:=by
  have k:((Value.agg #[e]).cells.toList.drop 0).take (Tryz.prog.cellsOf 22)= [e]:=by
   rw[show Tryz.prog.cellsOf 22=1 by kernel_rfl];rfl
  rw[<-k];exact s
 obtain⟨A,l,c,rfl⟩ :∃A l c,e=.slice A l c:=by
  rcases fW Tryz.underlying22 Tryz.underlying99 (by kernel_rfl) tE g with⟨f,_⟩|⟨D,G,E,K,B,C,f,_⟩
  ·simp at f
   exact⟨_,_,_,f⟩
  ·simp at f
   exact⟨_,_,_,f⟩
 obtain⟨p,rfl,t,u⟩:=Df g;exact⟨A,p,c,rfl,t,u⟩
end
end Go.Proofs.YtmdocplknceilaaGreat
