import Derived.Test.YtmdocplknceilaaGreatRWBB
import Derived.Test.YtmdocplknceilaaGreatRWBF
import Derived.SizedLaws
set_option linter.all false
set_option maxRecDepth 100000
namespace Go.Proofs.YtmdocplknceilaaGreat
section
open Go.RowKit Go.WideShapes Go.ChangeShapes Go.ChangeAt Go.Joins
theorem Ct:Tryz.prog.cellsOf 90=2:=by kernel_rfl
theorem Cr:Tryz.prog.cellsOf 40=3:=by kernel_rfl
section
variable {H:Type}{enc:TypeId×Value->H}{W:World}{base:Nat}{spare:Nat->Bool}{held:Bool}{fuel:Nat}{A:Option Addr}{len cap:Nat}{x:DataW H×List MemPlace}
theorem Dh(b:DataW.trod enc Tryz.prog W base spare held fuel 82 [.slice A len cap] =some x):∃ps:List (Int×Nat),ps.length=len/\bP W W.heap.size 2 A ps.length (ps.flatMap jF)/\(∀y∈ps,y.2<4294967296)/\(ps.length=0\/∃t V,x.1=.slice t V/\t.length=ps.length):=by
 have L:∀l:List (Int×Nat),(l.flatMap jF).length=l.length*2:=λl=>by
  induction l with
  |nil=>rfl
  |cons a l q=>rw[yZ,yk,q,zo];simp[jF];omega
 rcases fW Tryz.underlying82 Tryz.underlying90 (by kernel_rfl) Ct b with⟨e,_⟩|⟨a,a7,a2,T,a0,a1,e,_,a4,a6,N,R,G⟩
 ·simp at e
  obtain⟨rfl,rfl,rfl⟩:=e;exact⟨[],rfl,bP.none_,λo p=>(by cases p),.inl rfl⟩
 ·simp at e
  obtain⟨rfl,rfl,rfl⟩:=e;have a5:len<=T:=by rw[N];split<;>omega
  have F:∀i,i<len->∃y:Int×Nat,(W.cell? (a.add (i*2+0))=some (.int .i64 y.1)/\W.cell? (a.add (i*2+1))=some (.int .u32 (y.2:Int)))/\y.2<4294967296:=by
   intro i a3;obtain⟨ad,n,_,_,_,v⟩:=G i (by omega);obtain⟨v0,a9,f,_,w⟩:=v 0 _ rfl;obtain⟨v1,ab,g,_,B⟩:=v 1 _ rfl;replace f:W.cell? (a.add (i*2+0))=some v0:=f;replace g:W.cell? (a.add (i*2+1))=some v1:=g;obtain⟨Y,r,_,a8⟩:=DataW.trod_int Tryz.underlying3 w;obtain⟨Z,s,_,X⟩:=DataW.trod_int Tryz.underlying47 B;simp only[List.cons.injEq,and_true] at r s;subst r s;have c:=bounds_u32 X;exact⟨(Y,Z.toNat),⟨f,by rw[g];simp only;rw[Yc c.1]⟩,by dsimp only;omega⟩
  obtain⟨l,c,d⟩:=oS (λi (y:Int×Nat)=>(W.cell? (a.add (i*2+0))=some (.int .i64 y.1)/\W.cell? (a.add (i*2+1))=some (.int .u32 (y.2:Int)))/\y.2<4294967296) ((0:Int),(0:Nat)) len F;refine⟨l,c,⟨L l,λP=>⟨a,rfl,?_,λj u Q=>?_⟩⟩,λo p=>?_,.inr ⟨_,_,by rw[R],by rw[zY,List.length_range,c]⟩⟩
  ·have:=block_lt_of_cell (d 0 l[0] (gG P)).1.1
   rwa [lS] at this
  ·have D:∀(l:List (Int×Nat)) (j:Nat) (u:Value),(l.flatMap jF)[j]?=some u->∃i y,l[i]?=some y/\((j=i*2+0/\u=.int .i64 y.1)\/(j=i*2+1/\u=.int .u32 (y.2:Int))):=by
    intro l
    induction l with
    |nil=>intro j u b;simp at b
    |cons y l q=>
     intro j u b;rw[yZ] at b
     match j,b with
     |0,b=>exact⟨0,y,rfl,.inl ⟨rfl,by simpa[jF] using b.symm⟩⟩
     |1,b=>exact⟨0,y,rfl,.inr ⟨rfl,by simpa[jF] using b.symm⟩⟩
     |j+2,b=>
      obtain⟨i,z,c,d⟩:=q j u b;refine⟨i+1,z,c,?_⟩
      rcases d with⟨C,m⟩|⟨C,m⟩
      ·exact .inl ⟨by omega,m⟩
      ·exact .inr ⟨by omega,m⟩
   obtain⟨i,y,S,E⟩:=D l j u Q;have:=d i y S
   rcases E with⟨rfl,rfl⟩|⟨rfl,rfl⟩
   ·exact this.1.1
   ·exact this.1.2
  ·obtain⟨k,K⟩:=yF p
   exact(d k o K).2
end
theorem ET{H:Type}{enc:TypeId×Value->H}{W:World}{r:Reach}{i base:Nat}{spare:Nat->Bool}{held:Bool}{v:Value}{d:DataW H}{q:List MemPlace}
 (hv:Value.okWide Tryz.prog W r i 40 v) (j:∃n,DataW.trod enc Tryz.prog W base spare held n 40 v.cells.toList=some (d,q)):
 ∃a b c:Int,v=.agg #[.int .i64 a,.int .i64 b,.int .i64 c]:=by
 obtain⟨o,p,s,u,w,y,t,rfl,_,_,k,l,m⟩:=open_agg3 Tryz.underlying40 (by kernel_rfl) Cr hv j;obtain⟨a,e,_,_⟩:=DataW.trod_int Tryz.underlying3 k;obtain⟨b,f,_,_⟩:=DataW.trod_int Tryz.underlying3 l;obtain⟨c,g,_,_⟩:=DataW.trod_int Tryz.underlying3 m;simp at e f g;subst e f g;exact⟨a,b,c,rfl⟩
end
end Go.Proofs.YtmdocplknceilaaGreat
