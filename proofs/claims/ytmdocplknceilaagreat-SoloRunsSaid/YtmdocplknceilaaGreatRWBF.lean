import Derived.Test.YtmdocplknceilaaGreatRWAN
import Derived.Test.YtmdocplknceilaaGreatRWBC
set_option linter.all false
set_option maxRecDepth 100000
namespace Go.Proofs.YtmdocplknceilaaGreat
section
open Go.RowKit Go.Maps
def jF(x:Int×Nat):List Value:=[.int .i64 x.1,.int .u32 (x.2:Int)]
def ig(thr:Int)(x:Int×Nat):Bool:=decide (x.1<0)||decide (thr<=x.1)
theorem uu{w:World}{A:Option Addr}{ps:List (Int×Nat)}(n:bP w w.heap.size 2 A ps.length (ps.flatMap jF)){k:Nat}{x:Int×Nat}(c:ps[k]?=some x):∃b o,A=some ⟨b,o,none⟩/\w.cell? ⟨b,o+k*2,none⟩=some (.int .i64 x.1)/\w.cell? ⟨b,o+k*2+1,none⟩=some (.int .u32 (x.2:Int)):=by
 have u:k<ps.length:=(gS c).1;obtain⟨l,m,t,a⟩:=n.2 (by omega);obtain⟨y,f,i⟩:=iD jF (k:=2) (λ_=>rfl) ps (k*2) (by omega);obtain⟨v,g,j⟩:=iD jF (k:=2) (λ_=>rfl) ps (k*2+1) (by omega);rw[show k*2 / 2=k by omega,c] at f;rw[show(k*2+1) / 2=k by omega,c] at g
 cases f
 cases g
 rw[show k*2 % 2=0 by omega] at i;rw[show(k*2+1) % 2=1 by omega] at j;have d:=a (k*2) _ (i.trans rfl);have e:=a (k*2+1) _ (j.trans rfl);obtain⟨b,o,s⟩:=l;obtain⟨z,_,p⟩:=iD jF (k:=2) (λ_=>rfl) ps 0 (by omega);have q:=World.cell?_spot (a 0 _ (p.trans rfl));have r:s=none:=by simpa[Addr.add] using q
 subst r;rw[bg] at d e;exact⟨b,o,m,d,e⟩
theorem BD(x:Int×Nat)(thr:Int)(i:Nat)(w:World)(d:w.cell? ⟨i,0,none⟩=some (.int .i64 thr)):Calls Tryz.prog 118 #[.agg #[.int .i64 x.1,.int .u32 (x.2:Int)],.pointer (some ⟨i,0,none⟩)] w λo w'=>o=.returned (.bool (ig thr x))/\ac w w':=by
 unfold ig;obtain⟨y,l⟩:=eX x.1;obtain⟨z,m⟩:=eX ((x.2:Int):Int);rw[<-l,<-m];clear l m;obtain⟨f,a⟩:=eX (w.alloc (.cells #[.int .i64 y,.int .u32 z] 90));have e:ac w f:=by rw[a];exact(aa.refl _ w).alloc _
 have g:ae f w.heap.size 90 #[.int .i64 y,.int .u32 z]:=by rw[a];exact bN
 have n:=g.I 0;simp at n;have p:=(e.I (block_lt_of_cell d) nF).trans d;have b:=hD e;have c:=hD a.symm;clear e g a d
 by_cases j:y<0
 ·simp only[j,decide_true,Bool.true_or]
  go_enter Tryz.func118,Tryz.ntmps118;go_upto_region 1 with fail;rw[c.O];go_wp2_with fail;go_ret;exact⟨rfl,b.O⟩
 ·simp only[j,decide_false,Bool.false_or]
  by_cases k:thr<=y
  ·simp only[k,decide_true]
   go_enter Tryz.func118,Tryz.ntmps118;go_upto_region 1 with fail;rw[c.O];go_wp2_with fail;go_ret;exact⟨rfl,b.O⟩
  ·simp only[k,decide_false]
   go_enter Tryz.func118,Tryz.ntmps118;go_upto_region 1 with fail;rw[c.O];go_wp2_with fail;go_ret;exact⟨rfl,b.O⟩
theorem CX(A:Option Addr)(c:Nat)(thr:Int)(j:Nat)(l:List (Int×Nat))(w:World)(D:bP w w.heap.size 2 A l.length (l.flatMap jF))(E:w.cell? ⟨j,0,none⟩=some (.int .i64 thr))(t:l.length<=1000):
 Calls Tryz.prog 154 #[.slice A l.length c,.func (.func 118) #[] #[.pointer (some ⟨j,0,none⟩)]] w λe w'=>e=.returned (.int .i64 (eF (ig thr) l 0))/\ac w w':=by
 obtain⟨r,v⟩:=eX (eF (ig thr) l 0);rw[<-v];have P:=hD v;have L:=hD D;have z:=hD E;obtain⟨n,u⟩:=eX l.length;rw[<-u] at t ⊢;have B:=hD u;have N:=hD t;clear v D u t E;go_enter Tryz.func154,Tryz.ntmps154;go_wp2_with fail
 go_loopw [8] (λi wr=>∃k:Nat,k<=n/\i=.int .i64 k/\eF (ig thr) (l.drop k) k=r/\ac w wr) (λi _=>n-(intOf i).toNat)
 case atStart=>exact⟨0,yx _,rfl,P.O.symm,oR⟩
 case round=>
  obtain⟨k,S,rfl,d,f⟩:=hrel
  by_cases a:k<n
  ·have V:(0:Int)<=(k:Int):=dK k
   have R:(k:Int)<(n:Int):=cO a;have G:k<l.length:=by rw[<-B.O];exact a
   have F:l[k]?=some l[k]:=gG G;obtain⟨b,o,Q,W,X⟩:=uu (eG L.O f) F;rw[yM G] at d;unfold eF at d;generalize l[k] =y at*;obtain⟨q,s⟩:=eX (ig thr y:Bool);have m:(if q=true then(k:Int) else eF (ig thr) (l.drop (k+1)) (k+1))=r:=by rw[s];exact d
   have x:Hd (Calls Tryz.prog 118 #[.agg #[.int .i64 y.1,.int .u32 (y.2:Int)],.pointer (some ⟨j,0,none⟩)] wr λe w'=>e=.returned (.bool q)/\ac wr w'):=hD (by rw[s];exact BD y thr j wr ((f.I (block_lt_of_cell z.O) nF).trans z.O));have H:wrap64 ((k:Int)+1)=(k:Int)+1:=cX a N.O;have p:=hD f;subst Q;clear d f s F;go_wp2_with fail;refine x.O.mono ?_;rintro e T ⟨rfl,K⟩;have C:=hD (p.O.trans K);clear K x
   cases q
   ·have g:Hd (eF (ig thr) (l.drop (k+1)) (k+1)=r):=hD m
    clear m;go_wp2_with fail;go_roundw
    case rel=>exact⟨k+1,a,by first|exact cK k|exact cH H,g.O,C.O⟩
    case measure=>first|exact aB rfl a|exact aB H a
   ·have g:Hd ((k:Int)=r):=hD m
    clear m;go_wp2_with fail;go_ret;exact⟨by rw[<-g.O];rfl,C.O⟩
  ·have R:¬(k:Int)<(n:Int):=λe=>a (yB.1 e)
   have:k=n:=yT S (yA a);subst this;rw[B.O,zq] at d;have g:=hD d;have p:=hD f;clear d f;go_wp2_with fail;go_ret;exact⟨by rw[<-g.O];rfl,p.O⟩
theorem CS(A:Option Addr)(c:Nat)(thr:Int)(a:Nat)(l:List (Int×Nat))(w:World)(d:bP w w.heap.size 2 A l.length (l.flatMap jF))(e:w.cell? ⟨a,0,none⟩=some (.int .i64 thr))(f:l.length<=1000):
 Calls Tryz.prog 117 #[.slice A l.length c,.func (.func 118) #[] #[.pointer (some ⟨a,0,none⟩)]] w λb w'=>b=.returned (.bool (l.any (ig thr)))/\ac w w':=by
 have i:=hD (CX A c thr a l w d e f);rw[<-ma _ l 0];generalize eF (ig thr) l 0=r at*;generalize l.length=n at*;clear d f e;go_enter Tryz.func117,Tryz.ntmps117;go_wp2_with fail;refine i.O.mono ?_;rintro b k ⟨rfl,g⟩;have j:=hD g;clear g;go_wp2_with fail;go_ret;exact⟨rfl,j.O⟩
end
end Go.Proofs.YtmdocplknceilaaGreat
