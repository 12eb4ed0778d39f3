import Derived.Test.YtmdocplknceilaaGreatNWAG
set_option linter.all false
namespace Go.Proofs.YtmdocplknceilaaGreat
section
def bA(a:aC):Int:=
 match a.kn with
 |0=>match a.at_ with
  |0=>7
  |1=>6
  |2=>5
  |3=>4
  |10=>3
  |11=>2*(a.b-a.i)+4
  |12=>2*(a.b-a.i)+3
  |13=>3
  |20=>2
  |_=>1
 |1=>9-(a.at_:Int)
 |_=>6-(a.at_:Int)
section
variable {Z d:Int}{C:List Int}{acts:List aC}{on:Option Nat}{L:List Int}{P N:Int}{ws:List (Int×Int)}{i:Nat}{a:aC}
theorem r8(c:fX Z d C acts on L P N ws)(f:acts[i]?=some a)(e:a.td=0)(o:a.kn=0):∃cur q,dH d C ws cur q P/\oQ (ld C d) (ld C (d+1)) cur C ws q a:=by
 obtain⟨cur,q,g,b,r,m,n⟩:=c.ex;have j:=c.kinds i a f e (by omega);subst j;have k:own acts (some i)=some a:=by simp only[own,f,e,yR]
 rw[k] at b;obtain⟨_,b⟩:=b
 rcases b with⟨_,_,_,l⟩|⟨p,_⟩
 ·exact⟨cur,q,g,l⟩
 ·omega
theorem tL(c:fX Z d C acts on L P N ws)(f:acts[i]?=some a)(e:a.td=0)(o:a.kn=1):∃cur q,dH d C ws cur q P/\sS (ld C d) (ld C (d+1)) cur q a:=by
 obtain⟨cur,q,g,b,r,m,n⟩:=c.ex;have j:=c.kinds i a f e (by omega);subst j;have k:own acts (some i)=some a:=by simp only[own,f,e,yR]
 rw[k] at b;obtain⟨_,b⟩:=b
 rcases b with⟨p,_⟩|⟨_,l⟩
 ·omega
 ·exact⟨cur,q,g,l⟩
theorem ER{f c:Int}{cur:Int×Int}{q:List Int}(e:sS f c cur q a):a.at_<=8:=by
 have g:a.at_=0\/a.at_=1\/a.at_=2\/a.at_=3\/a.at_=4\/a.at_=5\/a.at_=6\/a.at_=7\/a.at_=8:=by
  cases e with
  |s0 b=>simp[b]
  |s1 b=>simp[b]
  |s2 b=>simp[b]
  |s3 b=>simp[b]
  |s4 b=>simp[b]
  |s5 b=>simp[b]
  |s6 b=>simp[b]
  |s7 b=>simp[b]
  |s8 b=>simp[b]
 omega
theorem Dh{e:Nat}{f:Int}{cur:Int×Int}{q:List Int}(c:dW e f cur C ws q a):a.at_<=5:=by
 have g:a.at_=0\/a.at_=1\/a.at_=2\/a.at_=3\/a.at_=4\/a.at_=5:=by
  cases c with
  |s0 b=>simp[b]
  |s1 b=>simp[b]
  |s2 b=>simp[b]
  |s3 b=>simp[b]
  |s4 b=>simp[b]
  |s5 b=>simp[b]
 omega
theorem uh(e:fX Z d C acts on L P N ws)(f:acts[i]?=some a)(m:a.td=0)(r:a.kn<=2):1<=bA a/\(a.kn=1->bA a<=9)/\(a.kn=2->bA a<=6):=by
 obtain⟨cur,q,n,E,G,D,o⟩:=e.ex;obtain⟨kind,av,A,b,t,B,z,nw,H,K,told,got⟩:=a;simp only at m r;subst m
 by_cases w:kind=0
 ·subst w
  refine⟨?_,λc=>by simp at c,λc=>by simp at c⟩;obtain⟨cur,q,n,l⟩:=r8 e f rfl rfl
  cases l with
  |s0 c=>simp only at c;subst c;simp only[bA];omega
  |s1 c=>simp only at c;subst c;simp only[bA];omega
  |s2 c=>simp only at c;subst c;simp only[bA];omega
  |s3 c=>simp only at c;subst c;simp only[bA];omega
  |s10 c=>simp only at c;subst c;simp only[bA];omega
  |s11 c p u v s g k=>simp only at c k;subst c;simp only[bA];omega
  |s12 c p u v s g k F=>simp only at c k;subst c;simp only[bA];omega
  |s13 c=>simp only at c;subst c;simp only[bA];omega
  |s20 c=>simp only at c;subst c;simp only[bA];omega
  |s21 c=>simp only at c;subst c;simp only[bA];omega
 ·by_cases x:kind=1
  ·subst x
   obtain⟨cur,q,n,l⟩:=tL e f rfl rfl;have j:=ER l;simp only at j;refine⟨by simp only[bA];omega,λ_=>by simp only[bA];omega,λc=>by simp at c⟩
  ·have y:kind=2:=by omega
   subst y;have j:=Dh (o i _ f rfl rfl);simp only at j;refine⟨by simp only[bA];omega,λc=>by simp at c,λ_=>by simp only[bA];omega⟩
theorem wK(j:fX Z d C acts on L P N ws)(k:acts[i]?=some a)(p:a.td=0)(y:a.kn<=2)(e:(pstep d C a).what=0):bA (pstep d C a).a+1<=bA a+2*(((pstep d C a).C.length:Int)-C.length):=by
 obtain⟨cur,q,f,K,R,H,u⟩:=j.ex;obtain⟨kind,av,E,b,t,F,o,nw,S,T,told,got⟩:=a;simp only at p y;subst p
 by_cases A:kind=0
 ·subst A
  obtain⟨cur,q,f,m⟩:=r8 j k rfl rfl;simp only[pstep] at e ⊢
  cases m with
  |s0 c=>simp only at c;subst c;simp[fB,goes,bA]
  |s1 c=>simp only at c;subst c;simp[fB,goes,bA]
  |s2 c=>simp only at c;subst c;simp[fB,goes,bA]
  |s3 c=>simp only at c;subst c;simp only[fB,goes];split<;>simp[bA]
  |s10 c v n e r w=>
   simp only at c w r;subst c;have G:=(f.lay cur f.curm).1;have s:¬t=b:=by omega
   have z:(fresh o).length=1+(2*o).toNat:=by simp[fresh];omega
   simp only[fB,goes,yb s,bA,yk,z];omega
  |s11 c=>simp only at c;subst c;simp[fB,goes,bA];omega
  |s12 c v n e r g x Q=>
   simp only at c x;subst c;simp only[fB,goes,eI];split
   ·simp only[bA];omega
   ·simp only[bA];omega
  |s13 c=>simp only at c;subst c;simp[fB,goes,bA,eI]
  |s20 c=>simp only at c;subst c;simp[fB,goes,bA,eI]
  |s21 c=>simp only at c;subst c;simp[fB,over] at e
 ·by_cases B:kind=1
  ·subst B
   obtain⟨cur,q,f,m⟩:=tL j k rfl rfl;simp only[pstep] at e ⊢
   cases m with
   |s0 c=>simp only at c;subst c;simp[cM,goes,bA]
   |s1 c=>simp only at c;subst c;simp[cM,goes,bA]
   |s2 c=>simp only at c;subst c;simp[cM,goes,bA,eI]
   |s3 c=>simp only at c;subst c;simp only[cM,goes];split<;>simp[bA]
   |s4 c=>simp only at c;subst c;simp[cM,over] at e
   |s5 c=>simp only at c;subst c;simp[cM,goes,bA]
   |s6 c=>
    simp only at c;subst c;simp only[cM] at e ⊢;split
    ·rename_i l;rw[yf l] at e;simp[over] at e
    ·simp[goes,bA]
   |s7 c=>simp only at c;subst c;simp only[cM,goes];split<;>simp[bA,eI]
   |s8 c=>simp only at c;subst c;simp only[cM] at e;split at e<;>simp[over] at e
  ·have D:kind=2:=by omega
   subst D;have n:=u i _ k rfl rfl;simp only[pstep] at e ⊢
   cases n with
   |s0 c=>simp only at c;subst c;simp[bl,goes,bA]
   |s1 c=>
    simp only at c;subst c;simp only[bl] at e ⊢;split
    ·rename_i l;rw[yf l] at e;simp[over] at e
    ·simp[goes,bA]
   |s2 c=>simp only at c;subst c;simp[bl,goes,bA]
   |s3 c=>simp only at c;subst c;simp[bl,goes,bA]
   |s4 c=>simp only at c;subst c;simp[bl,goes,bA]
   |s5 c=>simp only at c;subst c;simp only[bl] at e;split at e<;>simp[over] at e
theorem Bh(d:Int)(C:List Int)(a:aC):C.length<=(pstep d C a).C.length:=by
 unfold pstep;split
 ·unfold fB
  split<;>simp[goes,over,eI]
 ·unfold cM
  split<;>(try split)<;>simp[goes,over,eI]
 ·unfold bl
  split<;>(try split)<;>simp[goes,over,eI]
end
theorem pK{C:List Int}{ds:List aT}(e:fC C ds){i:Nat}{x:aT}(g:ds[i]?=some x):0<=x.P/\x.own<=4-2*x.c0+3*x.N:=by
 obtain⟨_,_,_,cur,q,b,_,c,_⟩:=e.each i x g;have f:=c.1;have j:=c.2;have:=b.top0;have:=b.topP;simp only[aT.Z] at f;exact⟨by omega,by omega⟩
end
end Go.Proofs.YtmdocplknceilaaGreat
