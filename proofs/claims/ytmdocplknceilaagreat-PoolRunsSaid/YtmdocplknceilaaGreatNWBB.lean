import Derived.Test.YtmdocplknceilaaGreatNWBA
set_option linter.all false
set_option maxRecDepth 100000
set_option maxHeartbeats 4000000
namespace Go.Proofs.YtmdocplknceilaaGreat
section
open Go.RowKit Go.Maps
def je(p:List ah)(x:ah):List bI->Int
 | []=>0
 |o :: l=>if eD p x o≠0 then eD p x o else je p x l
def im(x:ah):Bool:=decide (0<x.ops.length)&&((x.ops.getD (x.ops.length-1) nO).k==10||(x.ops.getD (x.ops.length-1) nO).k==14)
def mw(x:ah):Int:=bg 0 (decide (x.args<=x.rg)) 110
def eK(p:List ah)(x:ah)(k:Nat):Int:=if mw x≠0 then mw x else je p x (x.ops.take k)
def be(p:List ah)(x:ah):Int:=bg (eK p x x.ops.length) (im x) 113
def dM(p:List ah):List ah->Int
 | []=>0
 |x :: l=>if be p x≠0 then be p x else dM p l
def bU(p:List ah):Int:=if ig p=false then 8 else if p= [] then 110 else dM p p
theorem pN(p:List ah)(x:ah):∀(l:List bI) (o:bI),je p x l=0->je p x (l++ [o])=eD p x o
 | [],o,_=>by
   show(if eD p x o≠0 then eD p x o else 0)=eD p x o
   by_cases b:eD p x o≠0
   ·rw[yf b]
   ·rw[yb b];omega
 |a :: l,o,b=>by
  rw[Ye];unfold je at b ⊢;split at b
  ·rename_i c;exact absurd b c
  ·rename_i c
   rw[yb c];exact pN p x l o b
theorem qS(p:List ah)(x:ah):∀(l d:List bI),je p x l≠0->je p x (l++d)=je p x l
 | [],d,b=>absurd rfl b
 |a :: l,d,b=>by
  rw[Ye];unfold je at b ⊢
  by_cases c:eD p x a≠0
  ·rw[yf c,yf c]
  ·rw[yb c] at b ⊢
   rw[yb c];exact qS p x l d b
theorem zu6{p:List ah}{x:ah}{k:Nat}{o:bI}(c:x.ops[k]?=some o)(a:eK p x k=0):eK p x (k+1)=eD p x o:=by
 unfold eK at a ⊢;split at a
 ·rename_i b;exact absurd a b
 ·rename_i b
  rw[yb b,yO,c];exact pN p x _ o a
theorem oT{p:List ah}{x:ah}{k:Nat}(a:eK p x k≠0):be p x=eK p x k:=by
 have:eK p x x.ops.length=eK p x k:=by
  unfold eK at a ⊢
  by_cases b:mw x≠0
  ·rw[yf b,yf b]
  ·rw[yb b] at a ⊢
   rw[yb b,zr];have:=qS p x (x.ops.take k) (x.ops.drop k) a;rw[List.take_append_drop] at this;exact this
 unfold be;rw[this];exact yb λc=>a c.1
theorem ru(p:List ah)(x:ah):eK p x 0=mw x:=by
 unfold eK;split
 ·rfl
 ·rename_i a
  have:mw x=0:=by omega
  rw[this];rfl
theorem mW{p:List ah}(b:ig p=true):∀x∈p,(0<=x.args/\x.args<=16)/\(0<=x.rg/\x.rg<=16)/\x.ops.length<=64/\∀o∈x.ops,cF o=true:=by
 intro x j;unfold ig at b;rw[zm] at b;have g:p.any fZ=false:=by have:=b.2;simpa using this
 have c:fZ x=false:=by
  have:=zI.1 g x j
  simpa using this
 unfold fZ at c;rw[Bool.or_eq_false_iff,Bool.or_eq_false_iff] at c;obtain⟨⟨d,e⟩,f⟩:=c;have a:(co x.args&&co x.rg)=true:=by simpa using d
 rw[zm] at a;refine⟨yD a.1,yD a.2,yA (of_decide_eq_false e),λo i=>?_⟩;have:=zI.1 f o i
 simpa using this
theorem lQ{o:bI}(c:cF o=true):(1<=o.k/\o.k<=14)/\(0<=o.d/\o.d<=16)/\(0<=o.a/\o.a<=16)/\(0<=o.b/\o.b<=16):=by
 unfold cF at c;simp only[zm] at c;obtain⟨⟨⟨⟨⟨e,⟨f,g⟩,i⟩,_⟩,_⟩,_⟩,_⟩:=c;exact⟨yD e,yD f,yD g,yD i⟩
theorem iL{p l:List ah}{x:ah}(a:be p x=0):dM p (x :: l)=dM p l:=by
 show(if be p x≠0 then _ else _)=_;rw[yb (by rw[a];simp)]
theorem fA{p l:List ah}{x:ah}(a:be p x≠0):dM p (x :: l)=be p x:=by
 show(if be p x≠0 then _ else _)=_;rw[yf a]
theorem qN{a:Nat}(b:¬a=0)(c:a<=64):wrap64 ((a:Int)-1)=((a-1:Nat):Int)/\(0:Int)<=((a-1:Nat):Int)/\((a-1:Nat):Int)<(a:Int)/\decide ((0:Int)<(a:Int))=true/\a-1<a:=by
 refine⟨by unfold wrap64;omega,by omega,by omega,yg (by omega),by omega⟩
def E4(w w':World)(p:List ah)(e:Ending):Prop:=∃fn op,e=.returned (.agg (aU (bU p) fn op))/\ac w w'
theorem Cy(p:List ah)(A:Option Addr)(c:Nat)(F:Nat->Prop)(w:World)(d0:dg w F A p)(f0:∀b,F b->b<w.heap.size)(d7:p.length<=1000)(db:∀x∈p,nU x):
 Calls Tryz.prog 108 #[aP p A c] w λs w'=>E4 w w' p s:=by
 obtain⟨n,ce⟩:=eX p.length;obtain⟨bb,bn⟩:=eX (w.alloc (.cells #[.slice A n c] 24));obtain⟨ab,c4⟩:=eX (bb.alloc (.cells (aU 0 0 0) 220));have fa:ac w bb:=by rw[bn];exact(aa.refl _ w).alloc _
 have dp:ac bb ab:=by rw[c4];exact oR.alloc _
 obtain⟨f,c9⟩:=eX w.heap.size;have cw:ae ab f 24 #[.slice A n c]:=dp.J (by rw[bn,c9];exact bN) nF;have e:ae ab (f+1) 220 (aU 0 0 0):=by rw[c4];have:=ae.new bb 220 (aU 0 0 0);rw[show bb.heap.size=f+1 by rw[bn,c9];simp] at this;exact this
 have bv:=fa.trans dp;obtain⟨es,d2⟩:=eX (ig p);have bz:=hD d2
 have ea:Hd (Calls Tryz.prog 149 #[.agg #[.slice A n c]] ab λs w'=>s=.returned (.bool es)/\ac ab w'):=hD (by
  have:=BY p A c F ab (d0.U bv) d7 db;unfold aP at this;rw[<-ce,<-d2] at this;exact this)
 have e1:=hD (d0.U bv);have ec:=hD cw;have e4:=hD e;have fw:=hD bv;have am:=hD (aI ce d7);have Z:=hD c9;have e7:Hd (∀b,F b->b<ab.heap.size):=hD λb l=>lL (f0 b l) bv.size
 have g3:=hD db;have ee:=hD (show((w.alloc (.cells #[.slice A n c] 24)).alloc (.cells #[.int .i64 0,.int .i64 0,.int .i64 0] 220))=ab by rw[c4,bn];rfl);have L:=cw.I 0;simp at L;unfold aP;rw[<-ce];clear d0 f0 d7 db ce bn c4 fa dp c9 cw e bv d2;go_enter Tryz.func108,Tryz.ntmps108;go_upto_region 1 with fail;rw[ee.O,<-Z.O];clear ee;go_wp2_with fail;refine ea.O.mono ?_;rintro s K ⟨rfl,b8⟩;have cr:=hD (b8.J ec.O nF);have D:=hD (b8.J e4.O nF);have a9:=hD (fw.O.trans b8);have e2:=hD (e1.O.U b8);have fs:Hd (∀b,F b->b<K.heap.size):=hD λb l=>lL (e7.O b l) b8.size
 have L:=cr.O.I 0;simp at L;have E:=D.O.I 0;have G:=D.O.I 1;have H:=D.O.I 2;simp[aU] at E G H;have az:=D.O.fz 0;have aE:=D.O.fz 1;have b0:=D.O.fz 2;clear b8 ea ec e4 e1 e7
 cases es
 ·have S:Hd (bU p=8):=hD (by unfold bU;rw[yf bz.O.symm])
  go_wp2_with fail;refine bodyPost_ret (bX Tryz.results108 rfl (cs:=aU 8 0 0) (((D.O.s_ 0 _).s_ 1 _).s_ 2 _) Tryz.underlying220 rfl (by kernel_rfl)) rfl ?_;refine⟨0,0,by rw[S.O],a9.O.trans' (aJ (aJ (af K (f+1) _ _))) (λb l=>.inr (by rw[l,Z.O];exact yX _))⟩
 ·by_cases cf:n=0
  ·subst cf
   have S:Hd (bU p=110):=hD (by unfold bU;rw[yb (by rw[<-bz.O];simp),yf (yr am.O.1.symm)]);go_wp2_with fail;refine bodyPost_ret (bX Tryz.results108 rfl (cs:=aU 110 0 0) (((D.O.s_ 0 _).s_ 1 _).s_ 2 _) Tryz.underlying220 rfl (by kernel_rfl)) rfl ?_;refine⟨0,0,by rw[S.O],a9.O.trans' (aJ (aJ (af K (f+1) _ _))) (λb l=>.inr (by rw[l,Z.O];exact yX _))⟩
  ·have t:((n:Int)==0)=false:=bF (by omega)
   have S:Hd (bU p=dM p p):=hD (by unfold bU;rw[yb (by rw[<-bz.O];simp),yb (λs=>cf (by rw[am.O.1,s];rfl))]);have e8:=hD (mW bz.O.symm);have h0:=hD cf;clear cf;go_wp2_with fail;clear E G H az aE b0
   go_loopw [23] (λi wr=>∃k:Nat,k<=n/\i=.int .i64 k/\dM p (p.drop k)=dM p p/\ac K wr) (λi _=>n-(intOf i).toNat)
   case atStart=>exact⟨0,yx _,rfl,rfl,oR⟩
   case round=>
    obtain⟨k,gf,rfl,bt,ai⟩:=hrel
    by_cases v:k<n
    ·have h3:(0:Int)<=(k:Int):=dB k
     have gb:(k:Int)<(n:Int):=cy v;have cd:k<p.length:=by rw[<-am.O.1];exact v
     have d5:p[k]?=some p[k]:=gG cd;have d9:=yN cd;have f2:=yM cd;generalize p[k] =x at*;obtain⟨b,dq,B,c3,g9,gB,gD,fm,eL⟩:=(e2.O.U ai).at_ d5;obtain⟨a4,d8⟩:=eX x.ops.length;rw[<-d8] at fm;have al:wrap64 ((k:Int)+1)=(k:Int)+1:=cG v (by rw[am.O.1];exact am.O.2);subst g9;have gt:wr.cell? ⟨f,0,none⟩=some (.slice (some ⟨b,dq,none⟩) n c):=(ai.J cr.O nF).I 0;obtain⟨bf,bo⟩:=eX (wr.alloc (.cells #[.int .i64 x.args,.int .i64 x.rg,.slice B a4 c3] 99));obtain⟨aw,c5⟩:=eX (bf.alloc (.cells #[.int .i64 0,.int .i64 (k:Int),.int .i64 0] 220));have dv:ac wr bf:=by rw[bo];exact oR.alloc _
     have cm:ac bf aw:=by rw[c5];exact oR.alloc _
     obtain⟨bk,bq⟩:=eX wr.heap.size;obtain⟨r,cb⟩:=eX (bk+1);have cv:ae aw bk 99 #[.int .i64 x.args,.int .i64 x.rg,.slice B a4 c3]:=cm.J (by rw[bo,bq];exact bN) nF;have ek:ae aw r 220 (aU 0 (k:Int) 0):=by rw[c5];have:=ae.new bf 220 (aU 0 (k:Int) 0);rw[show bf.heap.size=r by rw[bo,cb,bq];simp] at this;exact this
     have g5:Hd (ac K aw):=hD ((ai.trans dv).trans cm);have f5:K.heap.size<=r:=by rw[cb,bq];exact zJ ai.size
     have a8:=hD f5;have dz:=hD cv;have e0:=hD ek;have cq:=hD (e8.O x d9);have h1:=hD (g3.O x d9);have N:=hD d8;have gN:=hD d5;have Y:=hD f2;have a1:=hD bt;have e3:Hd (dy aw F B x.ops):=hD ((eL.U dv).U cm);have b9:Hd (bk=wr.heap.size/\r=bk+1/\bk≠r):=hD ⟨bq,cb,by omega⟩;have ef:Hd ((wr.alloc (.cells #[.int .i64 x.args,.int .i64 x.rg,.slice B a4 c3] 99)).alloc (.cells #[.int .i64 0,.int .i64 (k:Int),.int .i64 0] 220)=aw):=hD (by rw[c5,bo]);obtain⟨gq,gr⟩:=cv.gE2;clear d5 d9 f2 d8 bt ai eL bo c5 dv cm bq cb cv ek f5 cd;go_upto_region 9 with fail;rw[ef.O,<-b9.O.1,<-b9.O.2.1];clear ef;go_wp2_with fail;refine(cc r 0 (k:Int) 0 _ 110 aw e0.O).mono ?_;rintro s a2 ⟨rfl,dd,cn⟩;have b6:bg 0 (decide (x.args<=x.rg)) 110=eK p x 0:=(ru p x).symm;rw[b6] at dd;have cp:=hD (cn.J dz.O b9.O.2.2);have g4:=hD dd;have ar:Hd (ac K a2):=hD (g5.O.trans' cn (λb l=>.inr (by rw[l];exact a8.O)));have ba:Hd (∀b,F b->b≠r):=hD λb l s=>by have:=fs.O b l;have:=a8.O;omega
     have e5:Hd (dy a2 F B x.ops):=hD (e3.O.kp cn ba.O);have dw:=cp.O.I 2;simp at dw;clear dd cn gq gr gB gD fm gt b6 dz e0 e3;go_wp2_with fail;obtain⟨h5,gn⟩:=eX wr;subst gn
     go_loopw [39] (λi wr=>∃(j:Nat) (m:Int),j<=a4/\i=.int .i64 j/\ae wr r 220 (aU (eK p x j) (k:Int) m)/\aa (λb=>b=r) a2 wr) (λi _=>a4-(intOf i).toNat)
     case atStart=>exact⟨0,0,yx _,rfl,g4.O,oR⟩
     case round=>
      obtain⟨j,m,gc,rfl,bp,b2⟩:=hrel
      by_cases ad:j<a4
      ·have h4:(0:Int)<=(j:Int):=dB j
       have gp:(j:Int)<(a4:Int):=cy ad;have d4:j<x.ops.length:=by rw[<-N.O];exact ad
       have da:x.ops[j]?=some x.ops[j]:=gG d4;have f3:=cq.O.2.2.2 x.ops[j] (yN d4);have f8:wrap64 ((j:Int)+1)=(j:Int)+1:=cG ad (by rw[N.O];exact lT cq.O.2.2.1 (by decide));generalize x.ops[j] =o at*;obtain⟨eg,fd,d1,a3⟩:=(e5.O.kp b2 ba.O).at_ da;subst d1;have L:=a3 0 _ rfl;have gu:=a3 1 _ rfl;have gw:=a3 2 _ rfl;have gx:=a3 3 _ rfl;have gA:=a3 4 _ rfl;rw[yW] at L;obtain⟨T,c6⟩:=eX (wr.alloc (.cells #[.int .u8 o.k,.int .i64 o.d,.int .i64 o.a,.int .i64 o.b,.int .i64 o.n] 106));have dr:ac wr T:=by rw[c6];exact oR.alloc _
       obtain⟨ex,d3⟩:=eX wr.heap.size;have ej:ae T ex 106 #[.int .u8 o.k,.int .i64 o.d,.int .i64 o.a,.int .i64 o.b,.int .i64 o.n]:=by rw[c6,d3];exact bN
       have f4:ex≠r:=λs=>by have:=bp.lt;omega
       have V:=dr.J bp nF;have f6:aa (λb=>b=r) a2 T:=b2.trans (dr.mono λ_ s=>s.elim);have c0:=hD c6.symm;have e9:=hD d3;have W:=hD ej;have fv:=hD f4;have eb:=hD f6;have g2:=hD da;have ft:=hD f3;clear c6 dr d3 ej f4 f6 da f3 a3 b2 bp d4 dw
       by_cases g:eK p x j=0
       ·rw[g] at V
        have el:=V.I 0;have en:=V.I 2;have g6:=V.fz 2;simp[aU] at el en;have fp:=hD V;have fr:=hD g;clear V g;go_upto_region 13 with fail;rw[c0.O,<-e9.O];clear c0;go_upto_region 16 with fail;obtain⟨b3,c7⟩:=eX (T.setCell ⟨r,2,none⟩ (.int .i64 (j:Int)));rw[<-c7];have ds:aa (λb=>b=r) T b3:=by rw[c7];exact af _ _ _ _
        have f1:ae b3 r 220 (aU 0 (k:Int) (j:Int)):=by rw[c7];exact fp.O.s_ 2 _
        have br:aa (λb=>b=r) a2 b3:=eb.O.trans ds;have ei:ae b3 f 24 #[.slice (some ⟨b,dq,none⟩) n c]:=(ar.O.trans' br (λb l=>.inr (by rw[l];exact a8.O)):ac K b3).J cr.O nF;have c2:=br.J cp.O b9.O.2.2;have b4:=ds.J W.O fv.O;have ff:=ei.I 0;have fj:=c2.I 0;have fk:=c2.I 1;have fl:=c2.I 2;have v0:=b4.I 0;have v1:=b4.I 1;have v2:=b4.I 2;have v3:=b4.I 3;have v4:=b4.I 4;simp at ff fj fk fl v0 v1 v2 v3 v4;obtain⟨eq,g7,er,g8⟩:=lQ ft.O;have c8:=Bo p x o (some ⟨b,dq,none⟩) (some ⟨eg,fd,none⟩) c c3 r (k:Int) (j:Int) F b3 f1 ((e2.O.U ar.O).kp br ba.O) ba.O eq er (λy go=>(e8.O y go).1);unfold aP rX cR at c8;rw[<-am.O.1,<-N.O] at c8;have e6:=hD c8;have g0:=hD br;clear c8 br ei c2 b4 f1 ds c7 eq g7 er g8 el en g6 L gu gw gx gA;go_wp2_with fail;refine e6.O.mono ?_;rintro s h2 ⟨rfl,b6,fb⟩;rw[<-zu6 g2.O fr.O] at b6;have fq:=hD b6;have g1:=hD (g0.O.trans fb);clear b6 fb ff fj fk fl v0 v1 v2 v3 v4 e6;go_wp2_with fail;go_roundw
        case rel=>exact⟨j+1,(j:Int),ad,by first|exact cK j|exact cH f8,fq.O,g1.O⟩
        case measure=>first|exact au rfl ad|exact au f8 ad
       ·have P:Hd (bU p=eK p x j):=hD (by rw[S.O,<-a1.O,Y.O,fA (by rw[oT g];exact g),oT g])
        have cg:(eK p x j==0)=false:=bF g;have ch:(eK p x j !=0)=true:=bT g;have u:Hd (ac K T):=hD (ar.O.trans' eb.O (λb l=>.inr (by rw[l];exact a8.O)));have a5:=(V).I 0;have a6:=(V).I 1;have a7:=(V).I 2;simp[aU] at a5 a6 a7;have e:ae T (f+1) 220 (aU 0 0 0):=(u.O).J D.O nF;have E:=e.I 0;have G:=e.I 1;have H:=e.I 2;simp[aU] at E G H;have az:=e.fz 0;have aE:=e.fz 1;have b0:=e.fz 2;have X:Hd (ae (((T.setCell ⟨f+1,0,none⟩ (.int .i64 (eK p x j))).setCell ⟨f+1,1,none⟩ (.int .i64 (k:Int))).setCell ⟨f+1,2,none⟩ (.int .i64 m)) (f+1) 220 (aU (eK p x j) (k:Int) m)):=hD (((e.s_ 0 _).s_ 1 _).s_ 2 _);have a0:Hd (ac w (((T.setCell ⟨f+1,0,none⟩ (.int .i64 (eK p x j))).setCell ⟨f+1,1,none⟩ (.int .i64 (k:Int))).setCell ⟨f+1,2,none⟩ (.int .i64 m))):=hD ((a9.O.trans (u.O)).trans' (aJ (aJ (af T (f+1) _ _))) (λb l=>.inr (by rw[l,Z.O];exact yX _)));clear e;clear g V;go_upto_region 13 with fail;rw[c0.O,<-e9.O];clear c0;go_wp2_with fail;refine bodyPost_ret (bX Tryz.results108 rfl (cs:=aU (eK p x j) (k:Int) m) X.O Tryz.underlying220 rfl (by kernel_rfl)) rfl ?_;refine⟨(k:Int),m,?_,a0.O⟩;rw[P.O]
      ·have gp:¬(j:Int)<(a4:Int):=λs=>ad (yB.1 s)
       have ge:j=a4:=yT gc (yA ad);subst ge;have gs:=(b2.J cp.O b9.O.2.2).I 2;simp at gs;have bx:=hD bp;have c1:=hD b2;have fn:=hD (e5.O.kp b2 ba.O);clear bp b2 dw
       by_cases b1:j=0
       ·have f9:x.ops= []:=yr (by rw[<-N.O];exact b1)
        have W:Hd (im x=false):=hD (by unfold im;rw[f9];rfl);subst b1;clear f9;go_wp2_with fail;refine(cc r (eK p x 0) (k:Int) m false 113 wr bx.O).mono ?_;rintro s q ⟨rfl,t,R⟩;have Q:bg (eK p x 0) false 113=be p x:=by unfold be;rw[<-N.O,W.O]
        rw[Q] at t;have av:Hd (aa (λb=>b=r) a2 q):=hD (c1.O.trans R);have u:Hd (ac K q):=hD (ar.O.trans' av.O (λb l=>.inr (by rw[l];exact a8.O)));have C:=t.I 0;simp[aU] at C;have z:=hD t;clear t R Q
        by_cases g:be p x=0
        ·have an:Hd (dM p (p.drop (k+1))=dM p p):=hD (by rw[<-a1.O,Y.O,iL g])
         rw[g] at C;clear g;go_wp2_with fail;go_roundw
         case rel=>exact⟨k+1,v,by first|exact cK k|exact cH al,an.O,u.O⟩
         case measure=>first|exact au rfl v|exact au al v
        ·have P:Hd (bU p=be p x):=hD (by rw[S.O,<-a1.O,Y.O,fA g])
         have cg:(be p x==0)=false:=bF g;have ch:(be p x !=0)=true:=bT g;have a5:=(z.O).I 0;have a6:=(z.O).I 1;have a7:=(z.O).I 2;simp[aU] at a5 a6 a7;have e:ae q (f+1) 220 (aU 0 0 0):=(u.O).J D.O nF;have E:=e.I 0;have G:=e.I 1;have H:=e.I 2;simp[aU] at E G H;have az:=e.fz 0;have aE:=e.fz 1;have b0:=e.fz 2;have X:Hd (ae (((q.setCell ⟨f+1,0,none⟩ (.int .i64 (be p x))).setCell ⟨f+1,1,none⟩ (.int .i64 (k:Int))).setCell ⟨f+1,2,none⟩ (.int .i64 m)) (f+1) 220 (aU (be p x) (k:Int) m)):=hD (((e.s_ 0 _).s_ 1 _).s_ 2 _);have a0:Hd (ac w (((q.setCell ⟨f+1,0,none⟩ (.int .i64 (be p x))).setCell ⟨f+1,1,none⟩ (.int .i64 (k:Int))).setCell ⟨f+1,2,none⟩ (.int .i64 m))):=hD ((a9.O.trans (u.O)).trans' (aJ (aJ (af q (f+1) _ _))) (λb l=>.inr (by rw[l,Z.O];exact yX _)));clear e;clear g C;go_wp2_with fail;refine bodyPost_ret (bX Tryz.results108 rfl (cs:=aU (be p x) (k:Int) m) X.O Tryz.underlying220 rfl (by kernel_rfl)) rfl ?_;refine⟨(k:Int),m,?_,a0.O⟩;rw[P.O]
       ·obtain⟨ck,dk,dl,dm,ci⟩:=qN b1 (by rw[N.O];exact cq.O.2.2.1)
        have f7:x.ops[j-1]?=some (x.ops.getD (j-1) nO):=by rw[yc,gG (by rw[<-N.O];exact ci)];rfl
        obtain⟨eg,fd,d1,a3⟩:=fn.O.at_ f7
        have b7:im x=((x.ops.getD (j-1) nO).k==10||(x.ops.getD (j-1) nO).k==14):=by
         unfold im;rw[<-N.O,yg (Nat.pos_of_ne_zero b1),Bool.true_and]
        generalize x.ops.getD (j-1) nO=o at*;subst d1;have L:=a3 0 _ rfl;rw[yW] at L;clear a3 f7;have dn:=(aR ((j:Int)-1)).trans ck
        by_cases b5:o.k=10
        ·have W:Hd (im x=true):=hD (by rw[b7,b5];rfl)
         rw[b5] at L;clear b7 b5 b1 ci;go_wp2_with fail;clear L ck dn dk dl dm;refine(cc r (eK p x j) (k:Int) m true 113 wr bx.O).mono ?_;rintro s q ⟨rfl,t,R⟩;have Q:bg (eK p x j) true 113=be p x:=by unfold be;rw[<-N.O,W.O]
         rw[Q] at t;have av:Hd (aa (λb=>b=r) a2 q):=hD (c1.O.trans R);have u:Hd (ac K q):=hD (ar.O.trans' av.O (λb l=>.inr (by rw[l];exact a8.O)));have C:=t.I 0;simp[aU] at C;have z:=hD t;clear t R Q
         by_cases g:be p x=0
         ·have an:Hd (dM p (p.drop (k+1))=dM p p):=hD (by rw[<-a1.O,Y.O,iL g])
          rw[g] at C;clear g;go_wp2_with fail;go_roundw
          case rel=>exact⟨k+1,v,by first|exact cK k|exact cH al,an.O,u.O⟩
          case measure=>first|exact au rfl v|exact au al v
         ·have P:Hd (bU p=be p x):=hD (by rw[S.O,<-a1.O,Y.O,fA g])
          have cg:(be p x==0)=false:=bF g;have ch:(be p x !=0)=true:=bT g;have a5:=(z.O).I 0;have a6:=(z.O).I 1;have a7:=(z.O).I 2;simp[aU] at a5 a6 a7;have e:ae q (f+1) 220 (aU 0 0 0):=(u.O).J D.O nF;have E:=e.I 0;have G:=e.I 1;have H:=e.I 2;simp[aU] at E G H;have az:=e.fz 0;have aE:=e.fz 1;have b0:=e.fz 2;have X:Hd (ae (((q.setCell ⟨f+1,0,none⟩ (.int .i64 (be p x))).setCell ⟨f+1,1,none⟩ (.int .i64 (k:Int))).setCell ⟨f+1,2,none⟩ (.int .i64 m)) (f+1) 220 (aU (be p x) (k:Int) m)):=hD (((e.s_ 0 _).s_ 1 _).s_ 2 _);have a0:Hd (ac w (((q.setCell ⟨f+1,0,none⟩ (.int .i64 (be p x))).setCell ⟨f+1,1,none⟩ (.int .i64 (k:Int))).setCell ⟨f+1,2,none⟩ (.int .i64 m))):=hD ((a9.O.trans (u.O)).trans' (aJ (aJ (af q (f+1) _ _))) (λb l=>.inr (by rw[l,Z.O];exact yX _)));clear e;clear g C;go_wp2_with fail;refine bodyPost_ret (bX Tryz.results108 rfl (cs:=aU (be p x) (k:Int) m) X.O Tryz.underlying220 rfl (by kernel_rfl)) rfl ?_;refine⟨(k:Int),m,?_,a0.O⟩;rw[P.O]
        ·have cB:(o.k==10)=false:=bF b5
         by_cases bm:o.k=14
         ·have W:Hd (im x=true):=hD (by rw[b7,bm];rfl)
          rw[bm] at L;clear b7 b5 bm b1 ci cB;go_wp2_with fail;clear L ck dn dk dl dm;refine(cc r (eK p x j) (k:Int) m true 113 wr bx.O).mono ?_;rintro s q ⟨rfl,t,R⟩;have Q:bg (eK p x j) true 113=be p x:=by unfold be;rw[<-N.O,W.O]
          rw[Q] at t;have av:Hd (aa (λb=>b=r) a2 q):=hD (c1.O.trans R);have u:Hd (ac K q):=hD (ar.O.trans' av.O (λb l=>.inr (by rw[l];exact a8.O)));have C:=t.I 0;simp[aU] at C;have z:=hD t;clear t R Q
          by_cases g:be p x=0
          ·have an:Hd (dM p (p.drop (k+1))=dM p p):=hD (by rw[<-a1.O,Y.O,iL g])
           rw[g] at C;clear g;go_wp2_with fail;go_roundw
           case rel=>exact⟨k+1,v,by first|exact cK k|exact cH al,an.O,u.O⟩
           case measure=>first|exact au rfl v|exact au al v
          ·have P:Hd (bU p=be p x):=hD (by rw[S.O,<-a1.O,Y.O,fA g])
           have cg:(be p x==0)=false:=bF g;have ch:(be p x !=0)=true:=bT g;have a5:=(z.O).I 0;have a6:=(z.O).I 1;have a7:=(z.O).I 2;simp[aU] at a5 a6 a7;have e:ae q (f+1) 220 (aU 0 0 0):=(u.O).J D.O nF;have E:=e.I 0;have G:=e.I 1;have H:=e.I 2;simp[aU] at E G H;have az:=e.fz 0;have aE:=e.fz 1;have b0:=e.fz 2;have X:Hd (ae (((q.setCell ⟨f+1,0,none⟩ (.int .i64 (be p x))).setCell ⟨f+1,1,none⟩ (.int .i64 (k:Int))).setCell ⟨f+1,2,none⟩ (.int .i64 m)) (f+1) 220 (aU (be p x) (k:Int) m)):=hD (((e.s_ 0 _).s_ 1 _).s_ 2 _);have a0:Hd (ac w (((q.setCell ⟨f+1,0,none⟩ (.int .i64 (be p x))).setCell ⟨f+1,1,none⟩ (.int .i64 (k:Int))).setCell ⟨f+1,2,none⟩ (.int .i64 m))):=hD ((a9.O.trans (u.O)).trans' (aJ (aJ (af q (f+1) _ _))) (λb l=>.inr (by rw[l,Z.O];exact yX _)));clear e;clear g C;go_wp2_with fail;refine bodyPost_ret (bX Tryz.results108 rfl (cs:=aU (be p x) (k:Int) m) X.O Tryz.underlying220 rfl (by kernel_rfl)) rfl ?_;refine⟨(k:Int),m,?_,a0.O⟩;rw[P.O]
         ·have em:(o.k==14)=false:=bF bm
          have W:Hd (im x=false):=hD (by rw[b7,cB,em];rfl);clear b7 b5 bm b1 ci;go_wp2_with fail;clear L ck dn dk dl dm cB em;refine(cc r (eK p x j) (k:Int) m false 113 wr bx.O).mono ?_;rintro s q ⟨rfl,t,R⟩;have Q:bg (eK p x j) false 113=be p x:=by unfold be;rw[<-N.O,W.O]
          rw[Q] at t;have av:Hd (aa (λb=>b=r) a2 q):=hD (c1.O.trans R);have u:Hd (ac K q):=hD (ar.O.trans' av.O (λb l=>.inr (by rw[l];exact a8.O)));have C:=t.I 0;simp[aU] at C;have z:=hD t;clear t R Q
          by_cases g:be p x=0
          ·have an:Hd (dM p (p.drop (k+1))=dM p p):=hD (by rw[<-a1.O,Y.O,iL g])
           rw[g] at C;clear g;go_wp2_with fail;go_roundw
           case rel=>exact⟨k+1,v,by first|exact cK k|exact cH al,an.O,u.O⟩
           case measure=>first|exact au rfl v|exact au al v
          ·have P:Hd (bU p=be p x):=hD (by rw[S.O,<-a1.O,Y.O,fA g])
           have cg:(be p x==0)=false:=bF g;have ch:(be p x !=0)=true:=bT g;have a5:=(z.O).I 0;have a6:=(z.O).I 1;have a7:=(z.O).I 2;simp[aU] at a5 a6 a7;have e:ae q (f+1) 220 (aU 0 0 0):=(u.O).J D.O nF;have E:=e.I 0;have G:=e.I 1;have H:=e.I 2;simp[aU] at E G H;have az:=e.fz 0;have aE:=e.fz 1;have b0:=e.fz 2;have X:Hd (ae (((q.setCell ⟨f+1,0,none⟩ (.int .i64 (be p x))).setCell ⟨f+1,1,none⟩ (.int .i64 (k:Int))).setCell ⟨f+1,2,none⟩ (.int .i64 m)) (f+1) 220 (aU (be p x) (k:Int) m)):=hD (((e.s_ 0 _).s_ 1 _).s_ 2 _);have a0:Hd (ac w (((q.setCell ⟨f+1,0,none⟩ (.int .i64 (be p x))).setCell ⟨f+1,1,none⟩ (.int .i64 (k:Int))).setCell ⟨f+1,2,none⟩ (.int .i64 m))):=hD ((a9.O.trans (u.O)).trans' (aJ (aJ (af q (f+1) _ _))) (λb l=>.inr (by rw[l,Z.O];exact yX _)));clear e;clear g C;go_wp2_with fail;refine bodyPost_ret (bX Tryz.results108 rfl (cs:=aU (be p x) (k:Int) m) X.O Tryz.underlying220 rfl (by kernel_rfl)) rfl ?_;refine⟨(k:Int),m,?_,a0.O⟩;rw[P.O]
    ·have gb:¬(k:Int)<(n:Int):=λs=>v (yB.1 s)
     have gm:k=n:=yT gf (yA v);rw[gm,am.O.1,zq] at bt;have P:Hd (bU p=0):=hD (by rw[S.O,<-bt];rfl);have e:=ai.J D.O nF;have E:=e.I 0;have G:=e.I 1;have H:=e.I 2;simp[aU] at E G H;have az:=e.fz 0;have aE:=e.fz 1;have b0:=e.fz 2;have fo:=hD e;have fx:=hD ai;clear bt ai e;go_wp2_with fail;refine bodyPost_ret (bX Tryz.results108 rfl (cs:=aU 0 0 0) (((fo.O.s_ 0 _).s_ 1 _).s_ 2 _) Tryz.underlying220 rfl (by kernel_rfl)) rfl ?_;refine⟨0,0,by rw[P.O],(a9.O.trans fx.O).trans' (aJ (aJ (af wr (f+1) _ _))) (λb l=>.inr (by rw[l,Z.O];exact yX _))⟩
def sP(w w':World)(p:List ah)(e:Ending):Prop:=∃fn op,e=.returned (.tuple #[.int .i64 (bU p),.int .i64 fn,.int .i64 op])/\ac w w'
theorem vf(p:List ah)(A:Option Addr)(c:Nat)(F:Nat->Prop)(w:World)(s:dg w F A p)(t:∀b,F b->b<w.heap.size)(u:p.length<=1000)(y:∀x∈p,nU x):
 Calls Tryz.prog 58 #[aP p A c] w λq w'=>sP w w' p q:=by
 obtain⟨n,v⟩:=eX p.length;obtain⟨g,d⟩:=eX (w.alloc (.cells #[.slice A n c] 24));have f:ac w g:=by rw[d];exact(aa.refl _ w).alloc _
 have m:ae g w.heap.size 24 #[.slice A n c]:=by rw[d];exact bN
 have a:=hD (Cy p A c F g (s.U f) (λb K=>lL (t b K) f.size) u y);have B:=m.I 0;simp at B;have D:=hD f;have E:=hD d.symm;unfold aP at a ⊢;rw[<-v] at a ⊢;clear s t u y v d f m;go_enter Tryz.func58,Tryz.ntmps58;go_upto_region 1 with fail;rw[E.O];go_wp2_with fail;refine a.O.mono ?_;rintro q k ⟨fn,j,rfl,z⟩;obtain⟨r,i⟩:=eX (bU p);rw[<-i];have C:=hD i;clear i;unfold aU;obtain⟨l,e⟩:=eX (k.alloc (.cells #[.int .i64 r,.int .i64 fn,.int .i64 j] 220));have o:ae l k.heap.size 220 #[.int .i64 r,.int .i64 fn,.int .i64 j]:=by rw[e];exact bN
 obtain⟨L,N,P⟩:=o.gE3;have G:=hD e.symm;have H:Hd (ac w l):=hD ((D.O.trans z).trans (by rw[e];exact oR.alloc _));clear z o e B a;go_upto_region 2 with fail;rw[G.O]
 go_quiet (fail)
 go_wp2_with fail
 go_ret3
 refine⟨fn,j,?_,H.O.drewN nq⟩;rw[<-C.O];rfl
theorem eC{d c:Int}{b:Bool}(f:c≠0)(a:bg d b c=0):d=0/\b=true:=by
 unfold bg at a;split at a
 ·exact absurd a f
 ·rename_i e
  refine⟨a,?_⟩
  cases b
  ·exact absurd ⟨a,rfl⟩ e
  ·rfl
theorem iE{regs:Int}{xs:List Int}(a:ep regs xs=true):∀x∈xs,x<regs:=by
 intro x c;unfold ep at a;have b:(xs.any λx=>decide (regs<=x))=false:=by simpa using a
 have:=zI.1 b x c;simp at this;exact this
theorem pO{p:List ah}{x:ah}:∀{l:List bI},je p x l=0->∀o∈l,eD p x o=0
 | [],_,o,d=>by cases d
 |a :: l,b,o,d=>by
  unfold je at b;split at b
  ·rename_i e;exact absurd b e
  ·rename_i e
   rcases yG.1 d with c|c
   ·rw[c];omega
   ·exact pO b o c
theorem pG{p:List ah}:∀{l:List ah},dM p l=0->∀x∈l,be p x=0
 | [],_,x,d=>by cases d
 |a :: l,b,x,d=>by
  unfold dM at b;split at b
  ·rename_i e;exact absurd b e
  ·rename_i e
   rcases yG.1 d with c|c
   ·rw[c];omega
   ·exact pG b x c
theorem Ee{p:List ah}{x:ah}{o:bI}(l:cF o=true)(e:eD p x o=0)(H:dJ o.n):sR p x o:=by
 obtain⟨G,F,D,E⟩:=lQ l;unfold cF at l;simp only[zm] at l;obtain⟨⟨⟨⟨_,t⟩,r⟩,s⟩,fn⟩:=l;have zd:dS o.k=false->o.d=0:=λc=>by rw[c] at t;simpa using t
 have L:mZ o.k=false->o.a=0:=λc=>by rw[c] at r;simpa using r
 have N:na o.k=false->o.b=0:=λc=>by rw[c] at s;simpa using s
 have P:nc o.k=false->o.n=0:=λc=>by rw[c] at fn;simpa using fn
 have key:(o.k<=9\/o.k=12->o.d<x.rg)/\((2<=o.k/\o.k<=9)\/o.k=11\/o.k=14->o.a<x.rg)/\(3<=o.k/\o.k<=9->o.b<x.rg)/\(o.k=10\/o.k=11->0<=o.n/\o.n<x.ops.length)/\
  (o.k=12->0<=o.n/\o.n<p.length/\((bG p o.n).args=0\/o.a+(bG p o.n).args<=x.rg)):=by
  unfold eD at e
  by_cases y:o.k=12
  ·rw[yf y] at e
   simp only at e;split at e
   ·rename_i m
    obtain⟨q,j⟩:=eC (by decide) m;obtain⟨_,f⟩:=eC (by decide) q;have i:=iE f o.d (by simp);have g:=yD j;obtain⟨_,B⟩:=eC (by decide) e;have C:=yD B;exact⟨λ_=>i,λc=>by omega,λc=>by omega,λc=>by omega,λ_=>⟨g.1,g.2,C⟩⟩
   ·rename_i m;exact absurd e m
  rw[yb y] at e
  by_cases v:o.k=10
  ·rw[yf v] at e
   obtain⟨_,j⟩:=eC (by decide) e;have g:=yD j;exact⟨λc=>by omega,λc=>by omega,λc=>by omega,λ_=>g,λc=>by omega⟩
  rw[yb v] at e
  by_cases w:o.k=11
  ·rw[yf w] at e
   obtain⟨q,j⟩:=eC (by decide) e;obtain⟨_,f⟩:=eC (by decide) q;have i:=iE f o.a (by simp);have g:=yD j;exact⟨λc=>by omega,λ_=>i,λc=>by omega,λ_=>g,λc=>by omega⟩
  rw[yb w] at e
  by_cases u:o.k=1
  ·rw[yf u] at e
   obtain⟨_,f⟩:=eC (by decide) e;have i:=iE f o.d (by simp);exact⟨λ_=>i,λc=>by omega,λc=>by omega,λc=>by omega,λc=>by omega⟩
  rw[yb u] at e
  by_cases A:o.k=2
  ·rw[yf A] at e
   obtain⟨_,f⟩:=eC (by decide) e;have i:=iE f o.d (by simp);have g:=iE f o.a (by simp);exact⟨λ_=>i,λ_=>g,λc=>by omega,λc=>by omega,λc=>by omega⟩
  rw[yb A] at e
  by_cases z:o.k=14
  ·rw[yf z] at e
   obtain⟨_,f⟩:=eC (by decide) e;have g:=iE f o.a (by simp);exact⟨λc=>by omega,λ_=>g,λc=>by omega,λc=>by omega,λc=>by omega⟩
  rw[yb z] at e
  by_cases K:o.k=13
  ·exact⟨λc=>by omega,λc=>by omega,λc=>by omega,λc=>by omega,λc=>by omega⟩
  rw[yb K] at e;obtain⟨_,f⟩:=eC (by decide) e;exact⟨λ_=>iE f o.d (by simp),λ_=>iE f o.a (by simp),λ_=>iE f o.b (by simp),λc=>by omega,λc=>by omega⟩
 exact⟨G,F,D,E,H,key.1,key.2.1,key.2.2.1,key.2.2.2.1,key.2.2.2.2,λc=>zd (yd (by omega)),λc=>L (yd (by omega)),λc=>N (yd (by omega)),λc=>P (yd (by omega))⟩
theorem AQ{p:List ah}(a:bU p=0)(z:∀x∈p,∀o∈x.ops,dJ o.n):gC p:=by
 unfold bU at a;split at a
 ·cases a
 rename_i m;have f:ig p=true:=by simpa using m
 split at a
 ·cases a
 rename_i r;have w:=mW f;refine⟨r,?_,λx g=>?_⟩
 ·unfold ig at f
  rw[zm] at f;exact yD f.1
 ·obtain⟨v,B,A,y⟩:=w x g
  have l:=pG a x g;unfold be at l;obtain⟨c,e⟩:=eC (by decide) l;unfold eK at c;split at c
  ·rename_i j;exact absurd c j
  rename_i j;have s:mw x=0:=by omega
  obtain⟨_,t⟩:=eC (by decide) s;have u:=yD t;rw[zr] at c;unfold im at e;rw[zm] at e;have k:=yD e.1;refine⟨v.1,u,B.2,λb=>by rw[b] at k;exact absurd k (by simp),A,λo d=>Ee (y o d) (pO c o d) (z x g o d),λo d=>?_⟩;have q:x.ops.getD (x.ops.length-1) nO=o:=by rw[yc,d];rfl
  have i:=e.2;rw[q,Bool.or_eq_true] at i
  rcases i with b|b
  ·exact .inl (by simpa using b)
  ·exact .inr (by simpa using b)
def vT:Go.Shelf.Ren:=⟨fun|41=>109|n=>n,fun|22=>22|23=>99|4=>4|n=>n,fun|n=>n⟩
theorem AA:Go.Proofs.SlLaysE0.n41 Tryz.prog vT:={
 mixed:=by kernel_rfl
 f41:=⟨Tryz.f109.name,by decide,Tryz.func109.trans (yl some (by kernel_rfl))⟩
 t4:=Tryz.underlying4
 a4:=Tryz.isAgg4
 z4:=Tryz.sizeOf4
 v4:=Tryz.zeroValue4
 t22:=Tryz.underlying22
 a22:=Tryz.isAgg22
 z22:=Tryz.sizeOf22
 v22:=Tryz.zeroValue22}
def vU:Go.Shelf.Ren:=⟨fun|41=>110|n=>n,fun|22=>97|23=>106|4=>4|n=>n,fun|n=>n⟩
theorem AB:Go.Proofs.SlLaysE0.n41 Tryz.prog vU:={
 mixed:=by kernel_rfl
 f41:=⟨Tryz.f110.name,by decide,Tryz.func110.trans (yl some (by kernel_rfl))⟩
 t4:=Tryz.underlying4
 a4:=Tryz.isAgg4
 z4:=Tryz.sizeOf4
 v4:=Tryz.zeroValue4
 t22:=Tryz.underlying97
 a22:=Tryz.isAgg97
 z22:=Tryz.sizeOf97
 v22:=Tryz.zeroValue97}
theorem Af:∃i,Tryz.prog.info? 106=some i/\i.zero=some (.agg #[.int .u8 0,.int .i64 0,.int .i64 0,.int .i64 0,.int .i64 0])/\i.size=5/\i.bytes=40:=by
 have a:(Tryz.prog.info? 106).map (λi=>(i.zero,i.size,i.bytes))=some (some (.agg #[.int .u8 0,.int .i64 0,.int .i64 0,.int .i64 0,.int .i64 0]),5,40):=by kernel_rfl
 cases hi:Tryz.prog.info? 106 with
 |none=>rw[hi] at a;cases a
 |some i=>
  rw[hi] at a;simp only[yU,yC,yP] at a;exact⟨i,rfl,a⟩
theorem Ae:∃i,Tryz.prog.info? 99=some i/\i.zero=some (.agg #[.int .i64 0,.int .i64 0,.slice none 0 0])/\i.size=3/\i.bytes=40:=by
 have a:(Tryz.prog.info? 99).map (λi=>(i.zero,i.size,i.bytes))=some (some (.agg #[.int .i64 0,.int .i64 0,.slice none 0 0]),3,40):=by kernel_rfl
 cases hi:Tryz.prog.info? 99 with
 |none=>rw[hi] at a;cases a
 |some i=>
  rw[hi] at a;simp only[yU,yC,yP] at a;exact⟨i,rfl,a⟩
theorem qi(l:List bI):(l.flatMap eJ).length=l.length*5:=by
 induction l with
 |nil=>rfl
 |cons a l b=>rw[yZ,yk,b];simp[eJ];omega
theorem nx:∀(l:List bI) (i j:Nat) (k:bI),l[i]?=some k->j<5->(l.flatMap eJ)[i*5+j]?=(eJ k)[j]?
 | [],i,j,k,b,_=>by simp at b
 |a :: l,0,j,k,b,c=>by
  simp only[zQ,yC] at b;subst b;rw[yZ,yi (by simp[eJ];omega)];simp
 |a :: l,i+1,j,k,b,c=>by
  rw[yZ,yK (by simp[eJ];omega)];have:(i+1)*5+j-(eJ a).length=i*5+j:=by simp[eJ];omega
  rw[this];exact nx l i j k (by simpa using b) c
theorem pf{l:List bI}{q:Nat}{v:Value}(a:(l.flatMap eJ)[q]?=some v):∃i j x,q=i*5+j/\j<5/\l[i]?=some x/\(eJ x)[j]?=some v:=by
 have d:q<l.length*5:=by rw[<-qi];exact(gS a).1
 have c:q / 5<l.length:=by omega
 have b:l[q / 5]?=some l[q / 5]:=gG c;refine⟨q / 5,q % 5,l[q / 5],by omega,by omega,b,?_⟩;rw[<-nx l (q / 5) (q % 5) _ b (by omega),show q / 5*5+q % 5=q by omega];exact a
theorem mL{w w':World}(a:Below w.heap.size w w'):ac w w':=aa.below_ a
theorem nX(A:Option Addr)(d:List bI)(c:Nat)(F:Nat->Prop)(w:World)(C:dy w F A d)(t:d.length<=1000):
 Calls Tryz.prog 110 #[.slice A d.length c] w λa w'=>∃r c',a=.returned (.slice r d.length c')/\dy w' (bC w w') r d/\ac w w':=by
 rcases C with⟨k,l⟩|⟨b,o,k,l⟩
 ·subst k
  subst l;refine(AnyE.slices_Clone_nil AB 0 c w).mono ?_;rintro a w' ⟨rfl,rfl⟩;exact⟨none,0,rfl,.inl ⟨rfl,rfl⟩,oR⟩
 ·subst k
  obtain⟨R,G,N,P,Q⟩:=Af;refine(AnyE.slices_Clone AB R _ 5 40 G N P Q rfl (by decide) Tryz.sizeOf106 b o d.length c (d.flatMap eJ) w (qi d) (lT t (by unfold maxLen;decide)) (lT (zP 40 t) (by decide)) (λq v p=>?_) (λu L=>?_)).mono ?_
  ·obtain⟨i,j,x,rfl,m,f,hv⟩:=pf p
   rw[<-zx];exact(l i x f).2.2 j v hv
  ·obtain⟨q,p⟩:=yF L
   obtain⟨i,j,x,rfl,m,f,hv⟩:=pf p;have y:=yh hv;simp only[eJ,yG,zV,or_false] at y
   rcases y with a|a|a|a|a<;>rw[a]<;>rfl
  ·rintro a w' ⟨T,rfl,n,K,D⟩
   rcases n.2 with⟨e,B⟩|⟨g,z,cur,e,B,s,S⟩
   ·exact absurd e K
   ·refine⟨some ⟨g,0,none⟩,z,by rw[e],.inr ⟨g,0,rfl,λi x f=>?_⟩,mL D⟩
    have E:w.heap.size<=g:=by assumption
    have H:g<w'.heap.size:=(yu.1 s).1;refine⟨⟨E,H⟩,⟨cur,s⟩,λj v hv=>?_⟩
    have m:j<5:=by
     have:=(gS hv).1
     simpa[eJ] using this
    rw[e] at n;have:=n.cells (g:=g) rfl (i*5+j) v (by rw[nx _ _ j x f m];exact hv);rw[bw,yq] at this;rw[yq];exact this
def iT(f:Nat->Option Addr×Nat)(i:Nat)(x:ah):List Value:=[.int .i64 x.args,.int .i64 x.rg,.slice (f i).1 x.ops.length (f i).2]
def n4(f:Nat->Option Addr×Nat):List ah->Nat->List Value
 | [],_=>[]
 |x :: l,k=>iT f k x++n4 f l (k+1)
theorem qd(f:Nat->Option Addr×Nat):∀(l:List ah) (k:Nat),(n4 f l k).length=l.length*3
 | [],k=>rfl
 |x :: l,k=>by
  unfold n4;rw[yk,qd f l (k+1)];simp[iT];omega
theorem qc(f:Nat->Option Addr×Nat):∀(l:List ah) (k i j:Nat) (x:ah),l[i]?=some x->j<3->(n4 f l k)[i*3+j]?=(iT f (k+i) x)[j]?
 | [],k,i,j,x,b,_=>by simp at b
 |a :: l,k,0,j,x,b,c=>by
  simp only[zQ,yC] at b;subst b;unfold n4;rw[yi (by simp[iT];omega)];simp
 |a :: l,k,i+1,j,x,b,c=>by
  unfold n4;rw[yK (by simp[iT];omega)];have:(i+1)*3+j-(iT f k a).length=i*3+j:=by simp[iT];omega
  rw[this,qc f l (k+1) i j x (by simpa using b) c,show k+1+i=k+(i+1) by omega]
theorem zu7{f:Nat->Option Addr×Nat}{l:List ah}{q:Nat}{v:Value}(a:(n4 f l 0)[q]?=some v):∃i j x,q=i*3+j/\j<3/\l[i]?=some x/\(iT f i x)[j]?=some v:=by
 have d:q<l.length*3:=by rw[<-qd f l 0];exact(gS a).1
 have c:q / 3<l.length:=by omega
 have b:l[q / 3]?=some l[q / 3]:=gG c;refine⟨q / 3,q % 3,l[q / 3],by omega,by omega,b,?_⟩;have:=qc f l 0 (q / 3) (q % 3) _ b (by omega);rw[yq] at this;rw[<-this,show q / 3*3+q % 3=q by omega];exact a
def iY(w0 w:World)(Fo:Nat->Prop)(g:Nat)(A:Option Addr)(p:List ah)(f:Nat->Option Addr×Nat)(k:Nat):Prop:=
 ((A=none/\p= [])\/A=some ⟨g,0,none⟩)/\∀(i:Nat) (x:ah),p[i]?=some x->A=some ⟨g,0,none⟩/\bC w0 w g/\(∃zs,ae w g 99 zs)/\
   (∀(j:Nat) (v:Value),(iT f i x)[j]?=some v->w.cell? ⟨g,i*3+j,none⟩=some v)/\(i<k->dy w (bC w0 w) (f i).1 x.ops)/\(k<=i->dy w Fo (f i).1 x.ops)
theorem iY.fns{j w:World}{l:Nat->Prop}{g:Nat}{A:Option Addr}{p:List ah}{f:Nat->Option Addr×Nat}{k:Nat}(d:iY j w l g A p f k)(o:p.length<=k):dg w (bC j w) A p:=by
 rcases d.1 with a|a
 ·exact .inl a
 ·refine .inr ⟨g,0,a,λi x e=>?_⟩
  obtain⟨_,q,r,b,s,_⟩:=d.2 i x e;have c:=b 0 _ rfl;have m:=b 1 _ rfl;have n:=b 2 _ rfl;rw[yW] at c;refine⟨q,r,by rw[yq];exact c,by rw[yq];exact m,(f i).1,(f i).2,by rw[yq];exact n,s (lL (gS e).1 o)⟩
theorem nW(A:Option Addr)(p:List ah)(c:Nat)(F:Nat->Prop)(w:World)(N:dg w F A p)(G:p.length<=1000):
 Calls Tryz.prog 109 #[.slice A p.length c] w λd w'=>∃t c' g f,d=.returned (.slice t p.length c')/\iY w w' F g t p f 0/\ac w w':=by
 rcases N with⟨l,m⟩|⟨b,o,l,m⟩
 ·subst l
  subst m;refine(AnyE.slices_Clone_nil AA 0 c w).mono ?_;rintro d w' ⟨rfl,rfl⟩;exact⟨none,0,0,λ_=>(none,0),rfl,⟨.inl ⟨rfl,rfl⟩,λi x a=>by simp at a⟩,oR⟩
 ·subst l
  have D:∀i:Nat,∃z:Option Addr×Nat,∀x,p[i]?=some x->(∀(j:Nat) (v:Value),(iT (λ_=>z) i x)[j]?=some v->w.cell? ⟨b,o+i*3+j,none⟩=some v)/\dy w F z.1 x.ops:=by
   intro i
   cases hp:p[i]? with
   |none=>exact⟨(none,0),λx a=>by cases a⟩
   |some x=>
    obtain⟨_,_,a1,a2,B,k,a3,a4⟩:=m i x hp;refine⟨(B,k),λy W=>?_⟩
    cases W
    refine⟨λj v hv=>?_,a4⟩
    match j,hv with
    |0,hv=>simp[iT] at hv;subst hv;rw[yW];exact a1
    |1,hv=>simp[iT] at hv;subst hv;exact a2
    |2,hv=>simp[iT] at hv;subst hv;exact a3
    |j+3,hv=>simp[iT] at hv
  obtain⟨f,E⟩ :∃f:Nat->Option Addr×Nat,∀i x,p[i]?=some x->(∀(j:Nat) (v:Value),(iT f i x)[j]?=some v->w.cell? ⟨b,o+i*3+j,none⟩=some v)/\dy w F (f i).1 x.ops:=
   ⟨λi=>Classical.choose (D i),λi x a=>Classical.choose_spec (D i) x a⟩
  obtain⟨a0,R,X,Y,Z⟩:=Ae;refine(AnyE.slices_Clone AA a0 _ 3 40 R X Y Z rfl (by decide) Tryz.sizeOf99 b o p.length c (n4 f p 0) w (qd f p 0) (lT G (by unfold maxLen;decide)) (lT (zP 40 G) (by decide)) (λq v s=>?_) (λu V=>?_)).mono ?_
  ·obtain⟨i,j,x,rfl,n,a,hv⟩:=zu7 s
   rw[<-zx];exact(E i x a).1 j v hv
  ·obtain⟨q,s⟩:=yF V
   obtain⟨i,j,x,rfl,n,a,hv⟩:=zu7 s;have H:=yh hv;simp only[iT,yG,zV,or_false] at H
   rcases H with d|d|d<;>rw[d]<;>rfl
  ·rintro d w' ⟨a6,rfl,r,T,P⟩
   rcases r.2 with⟨e,L⟩|⟨g,k,cur,e,L,C,a5⟩
   ·exact absurd e T
   ·have K:=mL P
    have Q:w.heap.size<=g:=by assumption
    have S:g<w'.heap.size:=(yu.1 C).1;refine⟨some ⟨g,0,none⟩,k,g,f,by rw[e],⟨.inr rfl,λi x a=>⟨rfl,⟨Q,S⟩,⟨cur,C⟩,λj v hv=>?_,λd=>absurd d (zZ _),λ_=>(E i x a).2.U K⟩⟩,K⟩
    have n:j<3:=by
     have:=(gS hv).1
     simpa[iT] using this
    rw[e] at r;have:=r.cells (g:=g) rfl (i*3+j) v (by have:=qc f p 0 i j x a n;rw[yq] at this;rw[this];exact hv);rw[bw,yq] at this;exact this
theorem iY.put{o w l:World}{t:Nat->Prop}{g:Nat}{A B:Option Addr}{p:List ah}{f:Nat->Option Addr×Nat}{k c:Nat}{x:ah}(q:iY o w t g A p f k)(s:p[k]?=some x)(d:ac w l)(F:dy l (bC w l) B x.ops)(E:o.heap.size<=w.heap.size):
 iY o (l.setCell ⟨g,k*3+2,none⟩ (.slice B x.ops.length c)) t g A p (λi=>if i=k then(B,c) else f i) (k+1):=by
 have e:=af l g (k*3+2) (.slice B x.ops.length c);obtain⟨_,_,⟨T,z⟩,_,_,_⟩:=q.2 k x s;have n:=d.J z nF;refine⟨q.1,λi y m=>?_⟩;obtain⟨P,Q,⟨X,W⟩,C,R,S⟩:=q.2 i y m;have H:bC o (l.setCell ⟨g,k*3+2,none⟩ (.slice B x.ops.length c)) g:=(Q.up d.size).up e.size;refine⟨P,H,⟨_,n.s_ _ _⟩,λj v hv=>?_,λK=>?_,λK=>?_⟩
 ·have V:j<3:=by
   have:=(gS hv).1
   simpa[iT] using this
  by_cases u:i*3+j=k*3+2
  ·have a:i=k:=by omega
   have L:j=2:=by omega
   subst a;subst L;rw[s] at m
   cases m
   simp[iT] at hv;subst hv;have G:=(n.s_ (i*3+2) (.slice B x.ops.length c)).I (i*3+2);rw[G]
   have N:i*3+2<T.size:=by
    have:=C 2 _ rfl;rw[z.I] at this;exact(yu.1 this).1
   simp[N]
  ·rw[World.cell?_setCell_other _ _ _ _ (by first|(simp;omega)|simp|(intro D;injection D with e1 e2;exact u e2))]
   have hv':(iT f i y)[j]?=some v:=by
    by_cases a:i=k
    ·subst a
     match j,hv with
     |0,hv=>simpa[iT] using hv
     |1,hv=>simpa[iT] using hv
     |2,hv=>exact absurd rfl u
     |j+3,hv=>simp[iT] at hv
    ·simp only[iT,yb a] at hv ⊢
     exact hv
   have:=C j v hv';exact(d.I (p:=⟨g,i*3+j,none⟩) (block_lt_of_cell this) nF).trans this
 ·by_cases a:i=k
  ·subst a
   rw[s] at m
   cases m
   simp only[yR];exact(F.by_type e n (by decide)).mo λb r=>(r.dn E).up e.size
  ·simp only[yb a]
   exact(((R (by omega)).U d).by_type e n (by decide)).mo λb r=>(r.up d.size).up e.size
 ·have a:¬i=k:=by omega
  simp only[yb a];exact((S (by omega)).U d).by_type e n (by decide)
theorem iY.U{e w l:World}{c:Nat->Prop}{g:Nat}{A:Option Addr}{p:List ah}{f:Nat->Option Addr×Nat}{k:Nat}(n:iY e w c g A p f k){S:Nat->Prop}(d:aa S w l)(o:¬S g)(s:∀A a,dy w (bC e w) A a->dy l (bC e w) A a)(r:∀A a,dy w c A a->dy l c A a):iY e l c g A p f k:=by
 refine⟨n.1,λi x u=>?_⟩;obtain⟨y,z,⟨E,B⟩,q,C,D⟩:=n.2 i x u;exact⟨y,z.up d.size,⟨E,d.J B o⟩,λj v hv=>(d.I (p:=⟨g,i*3+j,none⟩) (block_lt_of_cell (q j v hv)) o).trans (q j v hv),λm=>(s _ _ (C m)).mo λb t=>t.up d.size,λm=>r _ _ (D m)⟩
def oO(w w':World)(p:List ah)(e:Ending):Prop:=∃A' c',e=.returned (aP p A' c')/\dg w' (bC w w') A' p/\ac w w'
theorem vH(A:Option Addr)(p:List ah)(c:Nat)(F:Nat->Prop)(w:World)(b9:dg w F A p)(ab:p.length<=1000)(bk:∀x∈p,x.ops.length<=1000):
 Calls Tryz.prog 114 #[aP p A c] w λd w'=>oO w w' p d:=by
 obtain⟨n,a0⟩:=eX p.length;obtain⟨H,L⟩:=eX (w.alloc (.cells #[.slice A n c] 24));obtain⟨m,T⟩:=eX (H.alloc (.cells #[.slice none 0 0] 24));have c0:ac w H:=by rw[L];exact(aa.refl _ w).alloc _
 have am:ac H m:=by rw[T];exact oR.alloc _
 obtain⟨e,Y⟩:=eX w.heap.size;have S:ae m e 24 #[.slice A n c]:=am.J (by rw[L,Y];exact bN) nF;have b6:ae m (e+1) 24 #[.slice none 0 0]:=by rw[T];have:=ae.new H 24 #[.slice none 0 0];rw[show H.heap.size=e+1 by rw[L,Y];simp] at this;exact this
 have an:=c0.trans am
 have aE:Hd (Calls Tryz.prog 109 #[.slice A n c] m λd w'=>∃o c' g f,d=.returned (.slice o n c')/\iY m w' F g o p f 0/\ac m w'):=hD (by
  have:=nW A p c F m (b9.U an) ab;rw[<-a0] at this;exact this)
 have av:=hD S;have aw:=hD b6;have b3:=hD an;have C:=hD (aI a0 (aI ab bk));have a5:=hD Y;have b4:=hD (show((w.alloc (.cells #[.slice A n c] 24)).alloc (.cells #[.slice none 0 0] 24))=m by rw[T,L]);have q:=S.I 0;have cn:=S.fz 0;simp at q;unfold aP;rw[<-a0];clear b9 ab bk a0 L T c0 am Y S b6 an;go_enter Tryz.func114,Tryz.ntmps114;go_upto_region 1 with fail;rw[b4.O,<-a5.O];clear b4;go_wp2_with fail;refine aE.O.mono ?_;rintro d b5 ⟨o,c',g,f,rfl,Z,a1⟩;have j:=a1.J av.O nF;have a3:=j.I 0;have c2:=j.fz 0;simp at a3;have G:=hD Z;have ci:=hD a1;have r:=hD j;have s:=hD (a1.J aw.O nF);clear Z a1 j q cn aE av aw;go_upto_region 2 with fail;obtain⟨K,V⟩:=eX (b5.setCell ⟨e,0,none⟩ (.slice o n c'));rw[<-V];have E:aa (λb=>b=e) b5 K:=by rw[V];exact af _ _ _ _
 have az:Hd (ae K e 24 #[.slice o n c']):=hD (by rw[V];exact r.O.s_ 0 _);have c6:Hd (ae K (e+1) 24 #[.slice none 0 0]):=hD (E.J s.O (by omega))
 have cb:Hd (iY m K F g o p f 0):=hD (by
  by_cases bm:p= []
  ·exact⟨G.O.1,λi x Q=>by rw[bm] at Q;simp at Q⟩
  ·obtain⟨x,Q⟩ :∃x,p[0]?=some x:=by cases p with
    |nil=>exact absurd rfl bm
    |cons a l=>exact⟨a,rfl⟩
   have d3:=(G.O.2 0 x Q).2.1;refine G.O.U E (λd=>?_) (λA d1 y=>y.by_type E r.O (by decide)) (λA d1 y=>y.by_type E r.O (by decide));obtain⟨c3,cw⟩:=(G.O.2 0 x Q).2.2.1;exact ae.ne_ cw r.O (by decide) d)
 have ch:Hd (aa (λb=>b=e) m K):=hD ((ci.O.mono λ_ d=>d.elim).trans E);have q:=az.O.I 0;simp at q;clear a3 c2 V E r s G;go_wp2_with fail
 go_loopw [11] (λi wr=>∃(k:Nat),k<=n/\i=.int .i64 k/\(∃f:Nat->Option Addr×Nat,iY m wr F g o p f k)/\ae wr e 24 #[.slice o n c']/\ae wr (e+1) 24 #[.slice none 0 0]/\aa (λb=>b=e) m wr) (λi _=>n-(intOf i).toNat)
 case atStart=>exact⟨0,yx _,rfl,⟨f,cb.O⟩,az.O,c6.O,ch.O⟩
 case round=>
  obtain⟨k,Z,rfl,⟨f,P⟩,N,D,y⟩:=hrel
  by_cases v:k<n
  ·have d4:(0:Int)<=(k:Int):=dB k
   have cq:(k:Int)<(n:Int):=cy v;have ad:k<p.length:=by rw[<-C.O.1];exact v
   have a9:p[k]?=some p[k]:=gG ad;have bf:=C.O.2.2 _ (yN ad);generalize p[k] =x at*;obtain⟨bo,cB,⟨c3,bp⟩,bq,_,br⟩:=P.2 k x a9;have a8:=bo;have a7:=bq 2 _ rfl;have bn:wrap64 ((k:Int)+1)=(k:Int)+1:=cG v (by rw[C.O.1];exact C.O.2.1);have q:=N.I 0;simp at q;rw[a8] at q;have bb:=λ(W:World) (z:ac wr W)=>nX (f k).1 x.ops (f k).2 F W ((br (lR)).U z) bf
   have b8:∀W,ac wr W->W.frozen? ⟨g,k*3+2,none⟩=false:=λW z=>(z.J bp nF).fz _
   have b0:=hD b8;have a4:=hD bb;have b1:=hD P;have r:=hD N;have s:=hD D;have R:=hD y;have b2:=hD a9;obtain⟨bv,ai⟩:=eX x.ops.length;rw[<-ai] at a7 a4;have ce:=hD ai;have d2:=hD a8;clear P N D y a9 bo cB bp bq br bb bf ad b8 a8 ai;have cg:Hd (∀W,ac wr W->W.cell? ⟨e,0,none⟩=some (.slice (some ⟨g,0,none⟩) n c')):=hD λW z=>(z.I (p:=⟨e,0,none⟩) (block_lt_of_cell q) nF).trans q
   have c8:Hd (∀W,ac wr W->W.cell? ⟨g,k*3+2,none⟩=some (.slice (f k).1 bv (f k).2)):=hD λW z=>(z.I (p:=⟨g,k*3+2,none⟩) (block_lt_of_cell a7) nF).trans a7
   go_wp2_with fail
   go_region_law (first|(go_simp;go_at_call 110;refine(a4.O _ (by first|exact oR|exact oR.drew)).mono ?_;rintro d u ⟨B,b7,rfl,ba,c1⟩;have t:Hd (ac wr u):=hD (by first|exact c1|exact oR.drew.trans c1);have cv:=cg.O u t.O;have ck:=c8.O u t.O;have cm:=b0.O u t.O)|fail)
   all_goals (
    have cp:=t.O.size;have c4:Hd (dy u (bC wr u) B x.ops):=hD (ba.mo λb j=>by first|exact j|exact j.dn (lR));obtain⟨a6,X⟩:=eX (u.setCell ⟨g,k*3+2,none⟩ (.slice B bv b7));rw[<-X];have cd:Hd (iY m a6 F g o p (λi=>if i=k then(B,b7) else f i) (k+1)):=hD (by rw[X,ce.O];exact b1.O.put b2.O t.O c4.O R.O.size);obtain⟨_,bt,⟨c3,al⟩,d0,_⟩:=b1.O.2 k x b2.O;have a2:aa (λb=>b=g) u a6:=by rw[X];exact af _ _ _ _
    have bx:e≠g:=λd=>ae.ne_ r.O al (by decide) d
    have bz:e+1≠g:=λd=>ae.ne_ s.O al (by decide) d
    have c5:=hD (a2.J (t.O.J r.O nF) bx);have c7:=hD (a2.J (t.O.J s.O nF) bz);have cf:Hd (aa (λb=>b=e) m a6):=hD ((R.O.trans (t.O.mono λ_ d=>d.elim)).trans' a2 (λb j=>.inr (by rw[j];exact bt.1)));clear ba X a2 bt al d0 bx bz cp a4 b0 cv ck cm;go_wp2_with fail;go_roundw
    case rel=>exact⟨k+1,v,by first|exact cK k|exact cH bn,⟨_,cd.O⟩,c5.O,c7.O,cf.O⟩
    case measure=>first|exact au rfl v|exact au bn v)
  ·have cq:¬(k:Int)<(n:Int):=λd=>v (yB.1 d)
   have cr:k=n:=yT Z (yA v);have q:=N.I 0;have a3:=D.I 0;have c2:=D.fz 0;simp at q a3;have c9:=hD (P.fns (by rw[cr,C.O.1];exact lR));have s:=hD D;have R:=hD y;clear P N D y;go_wp2_with fail;refine bodyPost_ret (bX Tryz.results114 rfl (cs:=#[.slice o n c']) (s.O.s_ 0 _) Tryz.underlying24 rfl (by kernel_rfl)) rfl ?_;have ar:=af wr (e+1) 0 (.slice o n c');refine⟨o,c',by rw[C.O.1];rfl,?_,?_⟩
   ·exact(c9.O.by_type ar s.O (by decide) (by decide)).mo λb j=>(j.dn b3.O.size).up ar.size
   ·exact(b3.O.trans' R.O (λb j=>.inr (by rw[j,a5.O];exact lR))).trans' ar (λb j=>.inr (by rw[j,a5.O];exact yX _))
theorem xL(A:Option Addr)(p:List ah)(c:Nat)(F:Nat->Prop)(w:World)(b9:dg w F A p)(ab:p.length<=1000)(bk:∀x∈p,x.ops.length<=1000):
 Calls Tryz.prog 59 #[aP p A c] w λd w'=>oO w w' p d:=by
 obtain⟨n,a0⟩:=eX p.length;obtain⟨H,L⟩:=eX (w.alloc (.cells #[.slice A n c] 24));obtain⟨m,T⟩:=eX (H.alloc (.cells #[.slice none 0 0] 24));have c0:ac w H:=by rw[L];exact(aa.refl _ w).alloc _
 have am:ac H m:=by rw[T];exact oR.alloc _
 obtain⟨e,Y⟩:=eX w.heap.size;have S:ae m e 24 #[.slice A n c]:=am.J (by rw[L,Y];exact bN) nF;have b6:ae m (e+1) 24 #[.slice none 0 0]:=by rw[T];have:=ae.new H 24 #[.slice none 0 0];rw[show H.heap.size=e+1 by rw[L,Y];simp] at this;exact this
 have an:=c0.trans am
 have aE:Hd (Calls Tryz.prog 109 #[.slice A n c] m λd w'=>∃o c' g f,d=.returned (.slice o n c')/\iY m w' F g o p f 0/\ac m w'):=hD (by
  have:=nW A p c F m (b9.U an) ab;rw[<-a0] at this;exact this)
 have av:=hD S;have aw:=hD b6;have b3:=hD an;have C:=hD (aI a0 (aI ab bk));have a5:=hD Y;have b4:=hD (show((w.alloc (.cells #[.slice A n c] 24)).alloc (.cells #[.slice none 0 0] 24))=m by rw[T,L]);have q:=S.I 0;have cn:=S.fz 0;simp at q;unfold aP;rw[<-a0];clear b9 ab bk a0 L T c0 am Y S b6 an;go_enter Tryz.func59,Tryz.ntmps59;go_upto_region 1 with fail;rw[b4.O,<-a5.O];clear b4;go_wp2_with fail;refine aE.O.mono ?_;rintro d b5 ⟨o,c',g,f,rfl,Z,a1⟩;have j:=a1.J av.O nF;have a3:=j.I 0;have c2:=j.fz 0;simp at a3;have G:=hD Z;have ci:=hD a1;have r:=hD j;have s:=hD (a1.J aw.O nF);clear Z a1 j q cn aE av aw;go_upto_region 2 with fail;obtain⟨K,V⟩:=eX (b5.setCell ⟨e,0,none⟩ (.slice o n c'));rw[<-V];have E:aa (λb=>b=e) b5 K:=by rw[V];exact af _ _ _ _
 have az:Hd (ae K e 24 #[.slice o n c']):=hD (by rw[V];exact r.O.s_ 0 _);have c6:Hd (ae K (e+1) 24 #[.slice none 0 0]):=hD (E.J s.O (by omega))
 have cb:Hd (iY m K F g o p f 0):=hD (by
  by_cases bm:p= []
  ·exact⟨G.O.1,λi x Q=>by rw[bm] at Q;simp at Q⟩
  ·obtain⟨x,Q⟩ :∃x,p[0]?=some x:=by cases p with
    |nil=>exact absurd rfl bm
    |cons a l=>exact⟨a,rfl⟩
   have d3:=(G.O.2 0 x Q).2.1;refine G.O.U E (λd=>?_) (λA d1 y=>y.by_type E r.O (by decide)) (λA d1 y=>y.by_type E r.O (by decide));obtain⟨c3,cw⟩:=(G.O.2 0 x Q).2.2.1;exact ae.ne_ cw r.O (by decide) d)
 have ch:Hd (aa (λb=>b=e) m K):=hD ((ci.O.mono λ_ d=>d.elim).trans E);have q:=az.O.I 0;simp at q;clear a3 c2 V E r s G;go_wp2_with fail
 go_loopw [11] (λi wr=>∃(k:Nat),k<=n/\i=.int .i64 k/\(∃f:Nat->Option Addr×Nat,iY m wr F g o p f k)/\ae wr e 24 #[.slice o n c']/\ae wr (e+1) 24 #[.slice none 0 0]/\aa (λb=>b=e) m wr) (λi _=>n-(intOf i).toNat)
 case atStart=>exact⟨0,yx _,rfl,⟨f,cb.O⟩,az.O,c6.O,ch.O⟩
 case round=>
  obtain⟨k,Z,rfl,⟨f,P⟩,N,D,y⟩:=hrel
  by_cases v:k<n
  ·have d4:(0:Int)<=(k:Int):=dB k
   have cq:(k:Int)<(n:Int):=cy v;have ad:k<p.length:=by rw[<-C.O.1];exact v
   have a9:p[k]?=some p[k]:=gG ad;have bf:=C.O.2.2 _ (yN ad);generalize p[k] =x at*;obtain⟨bo,cB,⟨c3,bp⟩,bq,_,br⟩:=P.2 k x a9;have a8:=bo;have a7:=bq 2 _ rfl;have bn:wrap64 ((k:Int)+1)=(k:Int)+1:=cG v (by rw[C.O.1];exact C.O.2.1);have q:=N.I 0;simp at q;rw[a8] at q;have bb:=λ(W:World) (z:ac wr W)=>nX (f k).1 x.ops (f k).2 F W ((br (lR)).U z) bf
   have b8:∀W,ac wr W->W.frozen? ⟨g,k*3+2,none⟩=false:=λW z=>(z.J bp nF).fz _
   have b0:=hD b8;have a4:=hD bb;have b1:=hD P;have r:=hD N;have s:=hD D;have R:=hD y;have b2:=hD a9;obtain⟨bv,ai⟩:=eX x.ops.length;rw[<-ai] at a7 a4;have ce:=hD ai;have d2:=hD a8;clear P N D y a9 bo cB bp bq br bb bf ad b8 a8 ai;have cg:Hd (∀W,ac wr W->W.cell? ⟨e,0,none⟩=some (.slice (some ⟨g,0,none⟩) n c')):=hD λW z=>(z.I (p:=⟨e,0,none⟩) (block_lt_of_cell q) nF).trans q
   have c8:Hd (∀W,ac wr W->W.cell? ⟨g,k*3+2,none⟩=some (.slice (f k).1 bv (f k).2)):=hD λW z=>(z.I (p:=⟨g,k*3+2,none⟩) (block_lt_of_cell a7) nF).trans a7
   go_wp2_with fail
   go_region_law (first|(go_simp;go_at_call 110;refine(a4.O _ (by first|exact oR|exact oR.drew)).mono ?_;rintro d u ⟨B,b7,rfl,ba,c1⟩;have t:Hd (ac wr u):=hD (by first|exact c1|exact oR.drew.trans c1);have cv:=cg.O u t.O;have ck:=c8.O u t.O;have cm:=b0.O u t.O)|fail)
   all_goals (
    have cp:=t.O.size;have c4:Hd (dy u (bC wr u) B x.ops):=hD (ba.mo λb j=>by first|exact j|exact j.dn (lR));obtain⟨a6,X⟩:=eX (u.setCell ⟨g,k*3+2,none⟩ (.slice B bv b7));rw[<-X];have cd:Hd (iY m a6 F g o p (λi=>if i=k then(B,b7) else f i) (k+1)):=hD (by rw[X,ce.O];exact b1.O.put b2.O t.O c4.O R.O.size);obtain⟨_,bt,⟨c3,al⟩,d0,_⟩:=b1.O.2 k x b2.O;have a2:aa (λb=>b=g) u a6:=by rw[X];exact af _ _ _ _
    have bx:e≠g:=λd=>ae.ne_ r.O al (by decide) d
    have bz:e+1≠g:=λd=>ae.ne_ s.O al (by decide) d
    have c5:=hD (a2.J (t.O.J r.O nF) bx);have c7:=hD (a2.J (t.O.J s.O nF) bz);have cf:Hd (aa (λb=>b=e) m a6):=hD ((R.O.trans (t.O.mono λ_ d=>d.elim)).trans' a2 (λb j=>.inr (by rw[j];exact bt.1)));clear ba X a2 bt al d0 bx bz cp a4 b0 cv ck cm;go_wp2_with fail;go_roundw
    case rel=>exact⟨k+1,v,by first|exact cK k|exact cH bn,⟨_,cd.O⟩,c5.O,c7.O,cf.O⟩
    case measure=>first|exact au rfl v|exact au bn v)
  ·have cq:¬(k:Int)<(n:Int):=λd=>v (yB.1 d)
   have cr:k=n:=yT Z (yA v);have q:=N.I 0;have a3:=D.I 0;have c2:=D.fz 0;simp at q a3;have c9:=hD (P.fns (by rw[cr,C.O.1];exact lR));have s:=hD D;have R:=hD y;clear P N D y;go_wp2_with fail;refine bodyPost_ret (bX Tryz.results59 rfl (cs:=#[.slice o n c']) (s.O.s_ 0 _) Tryz.underlying24 rfl (by kernel_rfl)) rfl ?_;have ar:=af wr (e+1) 0 (.slice o n c');refine⟨o,c',by rw[C.O.1];rfl,?_,?_⟩
   ·exact(c9.O.by_type ar s.O (by decide) (by decide)).mo λb j=>(j.dn b3.O.size).up ar.size
   ·exact(b3.O.trans' R.O (λb j=>.inr (by rw[j,a5.O];exact lR))).trans' ar (λb j=>.inr (by rw[j,a5.O];exact yX _))
end
end Go.Proofs.YtmdocplknceilaaGreat
