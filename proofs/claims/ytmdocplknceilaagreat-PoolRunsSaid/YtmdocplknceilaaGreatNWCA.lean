import Derived.Test.YtmdocplknceilaaGreatNWBZ
import Derived.Laws.StructEq
set_option linter.all false
set_option maxRecDepth 100000
set_option maxHeartbeats 8000000
namespace Go.Proofs.YtmdocplknceilaaGreat
section
open Go.RowKit Go.Maps
def nT(w wr:World)(mb:Nat)(l:List (Nm×Nat×aD))(k:Nat):Prop:=aN Tryz.prog wr 58 mb (dY (jC l)) k/\ac w wr
theorem qa{x:Nm×Nat×aD}{c:Int}{l:List cW}{u:cW}:vK x c (l++ [u])↔vK x c l\/x=(⟨c,u.tk.M⟩,u.kd,u.res):=by
 unfold vK;constructor
 ·rintro ⟨v,hv,a⟩
  rcases yH.1 hv with b|b
  ·exact .inl ⟨v,b,a⟩
  ·rw[yw.1 b] at a
   exact .inr a
 ·rintro (⟨v,hv,a⟩|a)
  ·exact⟨v,List.mem_append_left _ hv,a⟩
  ·exact⟨u,by simp,a⟩
theorem nT.U{w d w':World}{c k:Nat}{l:List (Nm×Nat×aD)}(a:nT w d c l k)(b:ac d w'):nT w w' c l k:=⟨a.1.only b nF,a.2.trans b⟩
def lD(b:Bool)(x:Nm×Nat×aD)(job:Int)(l:List cW):Prop:=b=true↔vK x job l
theorem lD.yes{x:Nm×Nat×aD}{a:Int}{l:List cW}{u:cW}(b:lD true x a l):lD true x a (l++ [u]):=⟨λ_=>qa.2 (.inl (b.1 rfl)),λ_=>rfl⟩
theorem lD.no{x:Nm×Nat×aD}{b:Int}{l:List cW}{u:cW}(c:lD false x b l)(d:x≠(⟨b,u.tk.M⟩,u.kd,u.res)):lD false x b (l++ [u]):=⟨λa=>(by cases a),λa=>by
 rcases qa.1 a with a|a
 ·exact c.2 a
 ·exact absurd a d⟩
theorem lD.now{x:Nm×Nat×aD}{a:Int}{l:List cW}{u:cW}(b:x=(⟨a,u.tk.M⟩,u.kd,u.res)):lD true x a (l++ [u]):=⟨λ_=>qa.2 (.inr b),λ_=>rfl⟩
theorem EV{x y:List UInt8}(b:¬x=y):((sB x).toList==(sB y).toList)=false:=by
 rw[ByteArray.toList_eq,ByteArray.toList_eq,beq_eq_false_iff_ne];intro a;apply b
 simpa[sB] using a
attribute [local simp] ew fe fD cL dP Region.binds dD dN Is ao Act.put
theorem su(got:List (Nm×Nat×aD))(r:List cW)(c0 c1:Option Addr)(c5 c6:Nat)(a1:Int)(F:Nat->Prop)(w:World)(ce:w.ownsRow 0 69 5 (.slice c0 got.length c5) got.length (got.flatMap jH))(cr:bi w F (.slice c1 r.length c6) r)
 (cp:BJ got r a1 (λ_=>False)) (ck:∀g∈got,dh g.1) (cf:got.length<=1000) (cv:r.length<=1000):
 Calls Tryz.prog 19 #[.slice c0 got.length c5,.slice c1 r.length c6,.int .u64 a1,.slice none 0 0] w λe w'=>e=.returned (.bool true)/\ac w w':=by
 obtain⟨n,bq⟩:=eX got.length;obtain⟨nw,br⟩ :∃n,n=r.length:=⟨_,rfl⟩
 obtain⟨da,ad⟩:=eX (w.alloc (.map #[] 0));obtain⟨m,bo⟩:=eX w.heap.size
 have ci:nT w da m [] 0:=⟨by
  rw[ad,bo];have:=aN.made (P:=Tryz.prog) fF w
  rw[show dY (jC [])=λ_=>none from by
   funext v;unfold dY;split
   ·simp[jC]
   ·rfl]
  exact this,by rw[ad];exact oR.alloc _⟩
 have d9:=hD ad.symm;have aw:=hD bo;have d8:=hD ci;have a9:=hD ce;have c4:=hD cr;have az:=hD cp;have c2:=hD ck;have H:=hD (aI bq (aI br (aI cf cv)));have e1:n<=1000:=by omega
 have cm:nw<=1000:=by omega
 rw[<-bq,<-br];have e0:=@run_makeMap Tryz.prog;clear ad bo ci ce cr cp ck bq br cf cv;go_enter Tryz.func19,Tryz.ntmps19;go_upto_region 2 with fail;rw[d9.O,<-aw.O];clear e0;go_wp2_with fail
 go_loopw [10] (λi wr=>∃k:Nat,k<=n/\i=.int .i64 k/\nT w wr m (got.take k) k) (λi _=>n-(intOf i).toNat)
 case atStart=>exact⟨0,yx _,rfl,d8.O⟩
 case round=>
  obtain⟨k,ef,rfl,D⟩:=hrel
  by_cases Z:k<n
  ·have eg:(0:Int)<=(k:Int):=dB k
   have dq:(k:Int)<(n:Int):=cy Z;have dw:k<got.length:=by have:=H.O.1;omega
   obtain⟨x,a0⟩ :∃x,got[k]?=some x:=⟨_,gG dw⟩
   obtain⟨⟨d,pn⟩,kn,⟨G,C⟩⟩:=x;have cs:wrap64 ((k:Int)+1)=(k:Int)+1:=cG Z e1;obtain⟨g,dm,j⟩:=tv (n:=n) (by have:=D.2.owns a9.O nG;rw[<-H.O.1] at this ⊢;exact this) a0;subst dm;have T:=j 0 _ rfl;have ar:=j 1 _ rfl;have bz:=j 2 _ rfl;have d2:=j 3 _ rfl;have d3:=j 4 _ rfl;rw[yW] at T
   obtain⟨e8,cg⟩ :∃q,w.heap[g]?=some q:=by
    rcases a9.O.2 with⟨l,_⟩|⟨c8,e7,cur,l,_,s,_⟩
    ·cases l
    ·cases l;exact⟨_,s⟩
   have b6:g<w.heap.size:=(yu.1 cg).1;have b7:g≠m:=λe=>by have:=aw.O;omega
   have cn:dh ⟨d,pn⟩:=c2.O _ (yh a0);obtain⟨e4,E⟩:=cn.key
   have al:dY (jC (got.take k)) (aV ⟨d,pn⟩)=none:=by
    rw[gl];unfold jC;rw[yb];intro dz;obtain⟨y,am,e⟩:=yL.1 dz;obtain⟨i,ai⟩:=yF am;rw[List.getElem?_take] at ai;split at ai
    ·rename_i ee
     have e2:=az.O.nodup;have c9:(got.map (·.1))[i]?=some ⟨d,pn⟩:=by rw[yJ,ai];simp[e]
     have dl:(got.map (·.1))[k]?=some ⟨d,pn⟩:=by rw[yJ,a0];rfl
     have:=(List.getElem?_inj (gS c9).1 e2).1 (c9.trans dl.symm);omega
    ·cases ai
   obtain⟨st,a3,b2,cB,bx,c7⟩:=(D.1.heap (w':=wr.drew) rfl).entry2 (t:=121) fF Tryz.underlying121 (z:=.int .i64 0) (λu=>by kernel_rfl) E (by unfold maxLen;omega);rw[al] at b2 bx;obtain⟨b1,dd,a7,d0⟩:=c7 a3 (.int .i64 (IntKind.i64.wrap 1)) rfl;rw[show IntKind.i64.wrap 1=1 by decide] at a7;have bk:=(D.1.heap (w':=wr.drew) rfl).look (t:=121) fF Tryz.underlying121 (z:=.int .i64 0) (by kernel_rfl) E;have bm:=bx.look (t:=121) fF Tryz.underlying121 (z:=.int .i64 0) (by kernel_rfl) E;rw[al] at bk;rw[jV] at bm;have aE:Hd (aa (λb=>b=m) wr a3):=hD ((aa.drew (aa.refl _ wr)).trans cB);have b0:Hd (aa (λb=>b=m) wr b1):=hD (aE.O.trans d0)
   have cb:nT w b1 m (got.take (k+1)) (k+1):=⟨by
    rw[al] at a7;rw[lu,wY (got.take k) (⟨d,pn⟩,kn,⟨G,C⟩)] at a7;rw[yO,a0];exact a7,D.2.trans' b0.O (λb e=>.inr (by rw[e,aw.O];exact lR))⟩
   have d4:=hD cb;have ab:=hD a0;have d7:=hD E;have Y:Hd (∀W,aa (λb=>b=m) wr W->aa (λb=>b=m) wr W/\W.cell? ⟨g,k*5,none⟩=some (.int .u64 d)/\W.cell? ⟨g,k*5+1,none⟩=some (.string (sB pn))):=hD λW b4=>⟨b4,(b4.I (p:=⟨g,k*5,none⟩) (lL b6 D.2.size) b7).trans T,(b4.I (p:=⟨g,k*5+1,none⟩) (lL b6 D.2.size) b7).trans ar⟩
   have dn:=Y.O wr oR;change (Instr.mapEntry 121 (.map (some m)) (.agg #[.int .u64 d,.string (sB pn)])).run Tryz.prog wr.drew=.ok (.tuple #[.int .i64 0,.int .i64 (st:Int)]) a3 at b2;change (Instr.lookup 121 (.map (some m)) (.agg #[.int .u64 d,.string (sB pn)]) false).run Tryz.prog wr.drew=.ok (.int .i64 0) wr.drew at bk;change (Instr.lookup 121 (.map (some m)) (.agg #[.int .u64 d,.string (sB pn)]) false).run Tryz.prog a3=.ok (.int .i64 0) a3 at bm;clear D a0 j cg b6 b7 cn E al cB bx c7 a7 d0 cb;go_upto_region 5 with fail
   go_cut [] (λwx=>wx=b1)
   case first=>
    go_region_held3 (λW=>aa (λb=>b=m) wr W/\W.cell? ⟨g,k*5,none⟩=some (.int .u64 d)/\W.cell? ⟨g,k*5+1,none⟩=some (.string (sB pn)))
     (first|with_reducible exact Y.O _ aE.O|with_reducible exact Y.O _ b0.O|with_reducible exact Y.O _ (aa.drew oR)|with_reducible exact Y.O _ oR|fail) (fail)
    all_goals (go_wp2_with fail;go_meet;exact rfl)
   case rest=>
    subst hcut;clear dn bk bm b2 dd Y T ar bz d2 d3 aE b0;obtain⟨a8,bt⟩:=eX wc;subst bt;obtain⟨e5,cq,b9⟩:=az.O.sound _ (yh ab.O);have dr:d=a1:=yl (λz:Nm×Nat×aD=>z.1.job) b9;subst dr;have c3:=hD (aI cq b9);clear cq b9;go_wp2_with fail
    go_loopw [11,12] (λf i wr=>∃(b:Bool) (a:Nat),a<=nw/\f=.bool b/\i=.int .i64 a/\lD b (⟨d,pn⟩,kn,⟨G,C⟩) d (r.take a)/\nT w wr m (got.take (k+1)) (k+1)) (λ_ i _=>nw-(intOf i).toNat)
    case atStart=>exact⟨false,0,yx _,rfl,rfl,⟨λe=>(by cases e),λ⟨v,hv,_⟩=>(by cases hv)⟩,d4.O⟩
    case round=>
     obtain⟨b,a,ds,rfl,rfl,a4,Q⟩:=hrel;have L:=hD Q;have a2:=hD a4
     by_cases c:a<nw
     ·have dv:(0:Int)<=(a:Int):=dB a
      have b8:(a:Int)<(nw:Int):=cy c;have o:wrap64 ((a:Int)+1)=(a:Int)+1:=cG c cm;have bn:a<r.length:=by have:=H.O.2.1;omega
      obtain⟨u,R⟩ :∃u,r[a]?=some u:=⟨_,gG bn⟩
      have V:=hD R;obtain⟨dk,b3,B,db,K⟩:=(c4.O.U Q.2).at_ R;subst b3;obtain⟨c8,b5,j⟩:=tv (n:=n) (by have:=Q.2.owns a9.O nG;rw[<-H.O.1] at this ⊢;exact this) ab.O
      cases b5
      have T:=j 0 _ rfl;have ar:=j 1 _ rfl;have bz:=j 2 _ rfl;have d2:=j 3 _ rfl;have d3:=j 4 _ rfl;rw[yW] at T;have S:=K 0 _ rfl;have d1:=K 4 _ rfl;have e6:=K 5 _ rfl;have an:=K 6 _ rfl;rw[yW] at S;clear Q a4 R K j
      cases b
      ·by_cases l:pn=u.tk.M
       ·by_cases A:kn=u.kd
        ·by_cases s:G=u.res.v
         ·by_cases X:C=u.res.e
          ·have d5:Hd (((⟨d,pn⟩,kn,⟨G,C⟩):Nm×Nat×aD)=(⟨d,u.tk.M⟩,u.kd,u.res)):=hD (by rw[l,A,s,X])
           rw[<-l] at S;rw[<-A] at an;rw[<-s] at d1;rw[<-X] at e6;clear l A s X;go_upto_region 10 with fail
           go_quiet (fail)
           go_wp2_with fail;go_roundw
           case measure=>first|exact au rfl c|exact au o c
           case rel=>exact⟨true,a+1,c,rfl,by first|exact cK a|exact cH o,by rw[yO,V.O];exact lD.now d5.O,L.O.U ((aa.refl _ wr).drewN nq)⟩
          ·have N:Hd (((⟨d,pn⟩,kn,⟨G,C⟩):Nm×Nat×aD)≠(⟨d,u.tk.M⟩,u.kd,u.res)):=hD (λe=>X (yl (λz:Nm×Nat×aD=>z.2.2.e) e))
           have ec:(C==u.res.e)=false:=bF X;rw[<-l] at S;rw[<-A] at an;rw[<-s] at d1;clear l A s X;go_upto_region 10 with fail
           go_quiet (fail)
           go_wp2_with fail;go_roundw
           case measure=>first|exact au rfl c|exact au o c
           case rel=>exact⟨false,a+1,c,rfl,by first|exact cK a|exact cH o,by rw[yO,V.O];exact a2.O.no N.O,L.O.U ((aa.refl _ wr).drewN nq)⟩
         ·have N:Hd (((⟨d,pn⟩,kn,⟨G,C⟩):Nm×Nat×aD)≠(⟨d,u.tk.M⟩,u.kd,u.res)):=hD (λe=>s (yl (λz:Nm×Nat×aD=>z.2.2.v) e))
          have eb:(G==u.res.v)=false:=bF s;rw[<-l] at S;rw[<-A] at an;clear l A s;go_upto_region 10 with fail
          go_quiet (fail)
          go_wp2_with fail;go_roundw
          case measure=>first|exact au rfl c|exact au o c
          case rel=>exact⟨false,a+1,c,rfl,by first|exact cK a|exact cH o,by rw[yO,V.O];exact a2.O.no N.O,L.O.U ((aa.refl _ wr).drewN nq)⟩
        ·have N:Hd (((⟨d,pn⟩,kn,⟨G,C⟩):Nm×Nat×aD)≠(⟨d,u.tk.M⟩,u.kd,u.res)):=hD (λe=>A (yl (λz:Nm×Nat×aD=>z.2.1) e))
         obtain⟨e3,ba⟩:=eX ((kn:Int):Int);obtain⟨kb,bb⟩:=eX ((u.kd:Int):Int);rw[<-ba] at bz;rw[<-bb] at an;have ea:(e3==kb)=false:=bF (by rw[ba,bb];omega);rw[<-l] at S;clear l A ba bb;go_upto_region 10 with fail
         go_quiet (fail)
         go_wp2_with fail;go_roundw
         case measure=>first|exact au rfl c|exact au o c
         case rel=>exact⟨false,a+1,c,rfl,by first|exact cK a|exact cH o,by rw[yO,V.O];exact a2.O.no N.O,L.O.U ((aa.refl _ wr).drewN nq)⟩
       ·have N:Hd (((⟨d,pn⟩,kn,⟨G,C⟩):Nm×Nat×aD)≠(⟨d,u.tk.M⟩,u.kd,u.res)):=hD (λe=>l (yl (λz:Nm×Nat×aD=>z.1.M) e))
        have e9:=EV l;clear l;go_upto_region 10 with fail
        go_quiet (fail)
        go_wp2_with fail;go_roundw
        case measure=>first|exact au rfl c|exact au o c
        case rel=>exact⟨false,a+1,c,rfl,by first|exact cK a|exact cH o,by rw[yO,V.O];exact a2.O.no N.O,L.O.U ((aa.refl _ wr).drewN nq)⟩
      ·skip
       go_upto_region 10 with fail
       go_quiet (fail)
       go_wp2_with fail;go_roundw
       case measure=>first|exact au rfl c|exact au o c
       case rel=>exact⟨true,a+1,c,rfl,by first|exact cK a|exact cH o,by rw[yO,V.O];exact lD.yes a2.O,L.O.U ((aa.refl _ wr).drewN nq)⟩
     ·have b8:¬(a:Int)<(nw:Int):=λe=>c (yB.1 e)
      have ch:a=r.length:=by have:=H.O.2.1;omega
      rw[ch,zr] at a4;have dp:b=true:=a4.2 ⟨e5,c3.O.1,c3.O.2⟩;subst dp;have a5:=Q.1.look (t:=121) fF Tryz.underlying121 (z:=.int .i64 0) (by kernel_rfl) d7.O
      have a6:dY (jC (got.take (k+1))) (aV ⟨d,pn⟩)=some (.int .i64 1):=by
       rw[gl];unfold jC;rw[yf];rw[yO,ab.O,yS];exact List.mem_append_right _ (by simp)
      rw[a6] at a5;change (Instr.lookup 121 (.map (some m)) (.agg #[.int .u64 d,.string (sB pn)]) false).run Tryz.prog wr=.ok (.int .i64 1) wr at a5;obtain⟨c8,b5,j⟩:=tv (n:=n) (by have:=Q.2.owns a9.O nG;rw[<-H.O.1] at this ⊢;exact this) ab.O
      cases b5
      have T:=j 0 _ rfl;have ar:=j 1 _ rfl;rw[yW] at T;clear Q a4 j ch a6;go_wp2_with fail;go_roundw
      case measure=>first|exact au rfl Z|exact au cs Z
      case rel=>exact⟨k+1,Z,by first|exact cK k|exact cH cs,L.O⟩
  ·have dq:¬(k:Int)<(n:Int):=λe=>Z (yB.1 e)
   have bf:k=got.length:=by have:=H.O.1;omega
   have cd:nT w wr m got k:=by
    have:=D;rw[bf,zr] at this;rw[bf];exact this
   have av:=hD cd;clear D bf cd;go_wp2_with fail;obtain⟨a8,bt⟩:=eX wr;subst bt
   go_loopw [13] (λi wr=>∃a:Nat,a<=nw/\i=.int .i64 a/\a8=wr) (λi _=>nw-(intOf i).toNat)
   case atStart=>exact⟨0,yx _,rfl,rfl⟩
   case round=>
    obtain⟨a,ds,rfl,bv⟩:=hrel;subst bv
    by_cases c:a<nw
    ·have dv:(0:Int)<=(a:Int):=dB a
     have b8:(a:Int)<(nw:Int):=cy c;have o:wrap64 ((a:Int)+1)=(a:Int)+1:=cG c cm;have bn:a<r.length:=by have:=H.O.2.1;omega
     obtain⟨u,R⟩ :∃u,r[a]?=some u:=⟨_,gG bn⟩
     obtain⟨dk,b3,B,db,K⟩:=(c4.O.U av.O.2).at_ R;subst b3;have S:=K 0 _ rfl;rw[yW] at S;have bp:(⟨a1,u.tk.M⟩ :Nm)∈got.map (·.1):=(az.O.all u (yh R)).2 nF;obtain⟨y,am,cw⟩:=yL.1 bp;obtain⟨e4,E⟩:=(c2.O y am).key;rw[cw] at E;have a5:=av.O.1.look (t:=121) fF Tryz.underlying121 (z:=.int .i64 0) (by kernel_rfl) E
     have a6:dY (jC got) (aV ⟨a1,u.tk.M⟩)=some (.int .i64 1):=by
      rw[gl];unfold jC;rw[yf bp]
     rw[a6] at a5;change (Instr.lookup 121 (.map (some m)) (.agg #[.int .u64 a1,.string (sB u.tk.M)]) false).run Tryz.prog a8=.ok (.int .i64 1) a8 at a5;clear R K bp am cw E a6;go_wp2_with fail
     go_loopw [14,15] (λx i wr=>x=.int .i64 1/\i=.int .i64 0/\a8=wr) (λ_ _ _=>0)
     case atStart=>exact⟨rfl,rfl,rfl⟩
     case round=>
      obtain⟨rfl,rfl,bv⟩:=hrel;subst bv;go_wp2_with fail;go_roundw
      case measure=>first|exact au rfl c|exact au o c
      case rel=>exact⟨a+1,c,by first|exact cK a|exact cH o,by first|rfl|trivial⟩
    ·have b8:¬(a:Int)<(nw:Int):=λe=>c (yB.1 e)
     go_wp2_with fail;go_ret;exact⟨rfl,av.O.2⟩
end
end Go.Proofs.YtmdocplknceilaaGreat
