import Derived.Test.YtmdocplknceilaaGreatNWBH
import Derived.Test.YtmdocplknceilaaGreatNWBI
set_option linter.all false
set_option maxRecDepth 100000
set_option maxHeartbeats 4000000
namespace Go.Proofs.YtmdocplknceilaaGreat
section
open Go.RowKit Go.Maps
structure kP(L:cP)(s:PS):Prop where
 dq:∀x∈s.ds,x.P<=10000/\x.N<=20000
 c:s.C.length<=45000
 n:L.n+3<=4611686018427387904
 fn:L.fn<=1000000000
 nm:s.nms.length<=1000000000
 dn:L.dn.length<=1000000
 th:s.ths.length<=1000
def E3(w w':World)(tag:Nat->Nat)(L:cP)(s:PS)(k draw:Nat)(e:Ending):Prop:=∃b s',e=.returned (.bool b)/\dO s k draw s'/\cV w w' tag L s s' 4
theorem EA(a:aC):cnt a<=1/\0<=cnt a:=by
 unfold cnt;split<;>omega
theorem Df(av:Value)(kd d:Nat)(cur:Nm)(fv:Value):((dQ av kd d cur fv).setIfInBounds 0 (.pointer none)).setIfInBounds 1 (.int .i64 0)=dQ (.pointer none) 0 d cur fv:=by simp[dQ]
theorem xe(b k:Nat){a:Nat}(d:1<a)(e:a<=1000)(g:k<a)(f:b<4294967296):
 wrap64 (1+wrap64 ((b:Int) % ((a:Int)-1)))=((1+b % (a-1):Nat):Int)/\wrap64 ((k:Int)+((1+b % (a-1):Nat):Int))=((k+(1+b % (a-1)):Nat):Int)/\((k+(1+b % (a-1)):Nat):Int) % (a:Int)=(((k+(1+b % (a-1))) % a:Nat):Int):=by
 have i:b % (a-1)<a-1:=Yj _ (by omega);have c:((b:Int) % ((a:Int)-1))=((b % (a-1):Nat):Int):=by rw[Int.natCast_emod];congr 1;omega
 rw[c];generalize b % (a-1)=z at*;refine⟨?_,?_,(Int.natCast_emod _ _).symm⟩<;>unfold wrap64<;>omega
theorem C9(b k:Nat){a:Nat}(e:1<a)(f:k<a):(k+(1+b % (a-1))) % a<a/\(k+(1+b % (a-1))) % a≠k:=by
 have g:b % (a-1)<a-1:=Yj _ (by omega);generalize b % (a-1)=z at*;refine⟨Yj _ (by omega),λc=>?_⟩
 by_cases d:k+(1+z)<a
 ·rw[Nat.mod_eq_of_lt d] at c;omega
 ·rw[Nat.mod_eq_sub_mod (by omega),Nat.mod_eq_of_lt (by omega)] at c;omega
section
variable {G:dx}{w w':World}{tag tag':Nat->Nat}{L L':cP}{s s':PS}{n:Nm}{r:aG}
theorem AZ(cs:aX w tag L s)(Z:aH G s (λ_=>False))(gn:gL G)(c1:kP L s){k tp j i:Nat}{th:Th}(fd:L.tps[k]?=some tp)(an:s.ths[k]?=some th)(c3:th.act=some (j,i))(Q:Nat)(gs:Q<4294967296):
 Calls Tryz.prog 45 #[ptr L.pb,ptr tp,.int .i64 (k:Int),.int .u32 (Q:Int)] w λe w'=>E3 w w' tag L s k Q e:=by
 obtain⟨x,a,aE,c4,b9,hV⟩:=(Z.th k th an).act j i c3;obtain⟨L',ws',dq,ec,kk,_⟩:=AJ Z.many aE c4 b9;obtain⟨y,dm⟩:=eX (⟨x.d,ws',x.acts.set i (pstep x.d s.C a).a,x.on,L',x.own+(((pstep x.d s.C a).C.length:Int)-s.C.length),x.P,x.c0⟩ :aT);rw[<-dm] at dq;obtain⟨S,c7⟩:=eX ({s with C:=(pstep x.d s.C a).C,ds:=s.ds.set j y}:PS);have el:oP s j i x a S:=⟨aE,c4,L',ws',by rw[c7,dm],by rw[c7];exact dq,ec,kk⟩
 obtain⟨h3,d,av,fv,h9,fm,i3,ha,hb,hd⟩:=cs.thW fd an;obtain⟨pl,p,dv,hf,rfl⟩:=ha j i c3;have fk:=c1.dq x (yh aE);have c6:=Z.kinds x (yh aE) a (yh c4);have g0:=hD (vI (cs.p3 (by decide)) Z.many aE c4 b9 dv hf fk.1 fk.2 c1.c c1.n);have bx:=fm.I 0;simp[dQ,ptr] at bx;have h2:S.th k=th:=by rw[c7];exact PS.th_eq an
 have f9:s.th k=th:=PS.th_eq an
 have fa:∀s',(if (pstep x.d s.C a).what=0 then s'=S else s'=i9 S k Q (pstep x.d s.C a).what (pstep x.d s.C a).val)->dO s k Q s':=λs' e=>by
  unfold dO;rw[f9,c3];exact⟨x,a,S,el,e⟩
 have es:=λe=>Z.dend an c3 el e
 have h6:(pstep x.d s.C a).what=2->(pstep x.d s.C a).val∈x.L:=λe=>by
  rcases ec with c|⟨_,c|c|c|c|c⟩
  ·omega
  ·omega
  ·rw[c.2.2];simp
  ·omega
  ·rw[c.2.2];simp
  ·omega
 have ff:=λe=>Z.vals x (yh aE) _ (h6 e)
 obtain⟨wh,fj⟩:=eX ((pstep x.d s.C a).what);obtain⟨val,h7⟩ :∃v,v=(pstep x.d s.C a).val:=⟨_,rfl⟩
 rw[<-fj,<-h7] at g0 fa ff;rw[<-fj] at es;have e9:Hd (y.d=x.d/\y.acts=x.acts.set i (pstep x.d s.C a).a/\y.on=x.on):=hD (by rw[dm];exact⟨rfl,rfl,rfl⟩);have cn:=hD cs;have br:=hD c7;have fx:=hD fa;have hv:=hD es;have hI:=hD ff;have a7:=hD (aI fd (aI an (aI h2 f9)));have hz:=hD fm;have a1:=hD (aI h3 (aI h9 (aI hb hd)));have cm:=hD c1;have ft:=hD gn;have hF:=hD Z;have hu:=hD gs;unfold ptr;clear cs Z gn c1 fd an c3 gs aE c4 b9 hV dq ec kk dm c7 el h3 h9 fm i3 ha hb hd dv hf fk c6 h2 f9 fa es h6 ff fj h7;go_enter Tryz.func45,Tryz.ntmps45
 go_upto_region 2 with(go_at_call 83;refine g0.O.mono ?_;rintro e b6 ⟨rfl,cb,hi,g9⟩)
 have jd:=hD cb;have gm:=g9 y e9.O.1 e9.O.2.1 e9.O.2.2
 have ej:aX b6 (cS tag w b6 3) {L with n:=L.n+cnt a,v:=hi} S:=by
  have:=(cn.O.part (i:=3) cb).fill3 (ps':=L.ps) (gm.mo (kG cn.O.tlt (by decide))) (iZ.refl _);rw[br.O];exact this
 obtain⟨u,da⟩ :∃t,t=cS tag w b6 3:=⟨_,rfl⟩
 rw[<-da] at ej;have e4:=hD ej;have g3:Hd (aQ w b6 tag u):=hD (by rw[da];exact aQ.part cn.O.tlt (by decide) cb);have b2:Hd (u tp=15):=hD (by rw[da,bJ cn.O.tlt tp (by rw[a1.O.1];decide)];exact a1.O.1);have g5:=cb.J hz.O (λe=>by rw[a1.O.1] at e;exact absurd e (by decide));have bq:=hD g5;obtain⟨f,cw⟩:=eX ({L with n:=L.n+cnt a,v:=hi}:cP)
 have g1:Hd (LK L f s S 1):=hD (by
  rw[cw,br.O];have:=(EA a).1;exact⟨rfl,rfl,rfl,rfl,by show L.n+cnt a<=L.n+1;omega,by show(L.fn:Int)<=L.fn+1;omega,by show(s.nms.length:Int)<=s.nms.length+1;omega,[],by simp,by simp⟩)
 rw[<-cw] at e4;have E:Hd (f.pb=L.pb/\f.tps=L.tps/\f.dp=L.dp/\f.fp=L.fp/\f.fn=L.fn):=hD (by rw[cw];exact⟨rfl,rfl,rfl,rfl,rfl⟩);clear cb g9 gm ej da bx g5 cw
 by_cases c8:wh=0
 ·subst c8
  go_wp2_with fail;go_ret;exact⟨true,S,rfl,fx.O S (by simp),u,f,e4.O,g3.O,g1.O.mo (by decide)⟩
 ·obtain⟨ce,dk⟩:=eX ((wh:Int):Int)
  rw[<-dk];have ab:(ce==0)=false:=bF (by rw[dk];exact λe=>c8 (Int.ofNat_eq_zero.1 e));obtain⟨kd,c6⟩:=eX ((th.kn:Int):Int);have bx:=bq.O.I 0;have bz:=bq.O.I 1;simp[dQ,ptr,<-c6] at bx bz;have ef:=bq.O.fz 0;have eg:=bq.O.fz 1;go_upto_region 7 with fail;obtain⟨m,cB⟩:=eX ((b6.setCell ⟨tp,0,none⟩ (.pointer none)).setCell ⟨tp,1,none⟩ (.int .i64 0));rw[<-cB];obtain⟨l,az⟩:=eX (S.setTh k {th with act:=none,kn:=0})
  have eb:ae m tp 131 (dQ (.pointer none) 0 d th.cur fv):=by
   have:=(bq.O.s_ 0 (.pointer none)).s_ 1 (.int .i64 0);rw[Df,<-cB] at this;exact this
  have fo:aa (λb=>b=tp) b6 m:=by rw[cB];exact(af _ tp 0 _).trans (af _ tp 1 _)
  have ex:S.ths[k]?=some th:=by rw[br.O];exact a7.O.2.1
  have gf:aX m u f l:=by
   rw[az];exact aY.thread (k:=k) (th:=th) (av:=.pointer none) (fv:=fv) {th with act:=none,kn:=0} e4.O ex (by rw[E.O.2.1];exact a7.O.1) (by rw[E.O.2.2.1];exact a1.O.2.1) fo eb (λ_=>rfl) (λj i e=>by cases e) (by rw[E.O.2.2.2.1];exact a1.O.2.2.1) a1.O.2.2.2
  have D:=hD gf;have b5:Hd (aQ w m tag u):=hD (g3.O.trans (aQ.same (i:=15) (by decide) (fo.mono λb e=>by rw[e];exact b2.O)))
  have b3:Hd (LK L f s l 1):=hD (by
   rw[az];obtain⟨X,T,cf,cg,ch,ai,ci,ck⟩:=g1.O;exact⟨X,T,cf,cg,ch,ai,ci,ck⟩)
  have gw:l.ths[k]?=some {th with act:=none,kn:=0}:=by rw[az];exact bD (gS ex).1
  obtain⟨em,f3⟩:=hv.O c8;rw[<-az] at em f3;have e7:=hD em;have a6:=hD (aI gw (aI f3 dk));have hG:=hD az;have hA:=hD c6;have gp:∀s',s'=i9 S k Q wh val->dO s k Q s':=λs' e=>fx.O s' (by rw[yb c8];exact e)
  have b0:Hd (∀s',s'=(if wh=1 then l else if wh=2 then dX l k (s.nms.getD val.toNat gU) else if th.kn=2/\s.queue≠[] then dX {l with queue:=s.queue.tail} k (s.queue.headD gU) else if th.kn=2/\1<s.ths.length then jk l k ((k+(1+Q % (s.ths.length-1))) % s.ths.length) else l)->dO s k Q s'):=hD λs' e=>by
   refine gp s' ?_;rw[e,az];unfold i9;simp only;rw[a7.O.2.2.1,br.O]
  have iw:=hD c8;have hs:=hD eb;clear cB az eb fo ex gf gw em f3 gp bx bz ef eg ab dk c6
  by_cases ab:wh=1
  ·subst ab
   rw[show ce=1 from a6.O.2.2];go_wp2_with fail;go_ret;exact⟨true,l,rfl,b0.O l rfl,u,f,D.O,b5.O,b3.O.mo (by decide)⟩
  ·have hY:(ce==1)=false:=bF (by rw[a6.O.2.2];exact λe=>ab (by omega))
   have R:=(D.O.p1 (by decide)).2;rw[E.O.1] at R;have K:l.nms=s.nms/\l.queue=s.queue/\l.ths.length=s.ths.length/\l.ds.length=s.ds.length:=by rw[hG.O,br.O];simp[PS.setTh]
   by_cases bm:wh=2
   ·subst bm
    obtain⟨v1,v2⟩:=hI.O rfl;obtain⟨bp,rfl⟩ :∃bp:Nat,val=(bp:Int):=⟨val.toNat,by omega⟩
    obtain⟨B,d5⟩ :∃B,s.nms[bp]?=some B:=⟨s.nms[bp]'(by omega),gG _⟩
    have gA:dh B:=(D.O.p10 (by decide)).2.2 B (by rw[K.1];exact yh d5)
    have h8:(Lit.int .i64 (bp:Int)).wf=true:=by
     have:=cm.O.nm;unfold Lit.wf;rw[zm,zR,zR];exact⟨Ya (by decide) (zD _),Ya (b:=1000000000) (by omega) (by decide)⟩
    have d4:=((D.O.p10 (by decide)).2.1).look (t:=118) tI Tryz.underlying118 (z:=.agg #[.int .u64 0,.string ⟨#[]⟩]) (by kernel_rfl) (Maps.keyOf_int_mk Tryz.underlying2 h8);rw[mX] at d4
    have gD:iq l.nms (bp:Int)=some (aV B):=by
     unfold iq;rw[yb (by omega),yo,K.1,d5];rfl
    rw[gD] at d4;change _=Result.ok (Value.agg #[.int .u64 B.job,.string (sB B.M)]) m at d4;obtain⟨dq,f1⟩:=eX f.mm;rw[<-f1] at d4;have hM:=R.I 8;simp[bB,<-f1] at hM;have al:=hD (qW (n:=B) D.O e7.O ft.O (by rw[E.O.2.1];exact a7.O.1) a6.O.1 gA (by rw[E.O.2.2.2.2];exact cm.O.fn));rw[E.O.1] at al;unfold ptr aV eT at al;have hB:=hD d5;rw[show ce=2 from a6.O.2.2];clear R K v1 v2 d5 gA h8 gD f1 hY
    go_wp2_with (go_at_call 84;refine al.O.mono ?_;rintro e Y ⟨rfl,fr⟩)
    go_ret;refine⟨true,_,rfl,b0.O _ ?_,(cV.then b5.O b3.O fr).mo (by decide)⟩;rw[yb (by decide)];simp only[yR,yo];rw[kR hB.O]
   ·have j4:(ce==2)=false:=bF (by rw[a6.O.2.2];exact λe=>bm (by omega))
    by_cases V:th.kn=2
    ·have eL:kd=2:=by rw[hA.O,V];rfl
     have d3:(th.kn:Int)=2:=by rw[V];rfl
     rw[d3];obtain⟨dd,aw⟩:=D.O.p5 (by decide);obtain⟨ho,g8,a3⟩:=bP aw;obtain⟨F,bf⟩:=eX f.tps.length;rw[<-bf] at a3;have a4:F=s.ths.length:=by rw[bf,(D.O.p15 (by decide)).1,K.2.2.1]
     by_cases a9:s.queue= []
     ·obtain⟨iv,j1,f7⟩ :∃A c,f.qv=.slice A 0 c:=by
       rcases(D.O.p6 (by decide)).1 with⟨e,_⟩|⟨g,o,c,cur,e,_⟩
       ·exact⟨none,0,e⟩
       ·exact⟨_,c,by rw[e,K.2.1,a9];rfl⟩
      have bz:=R.I 1;have a8:=R.I 6;simp[bB,f7] at a8;have g7:=R.I 3;simp[bB,a3] at g7
      by_cases bb:1<F
      ·have gB:(1:Int)<(F:Int):=by omega
       have gN:F<=1000:=by rw[a4];exact cm.O.th
       have f0:k<F:=by rw[a4];exact(gS a7.O.2.1).1
       obtain⟨dz,e0,e1⟩:=xe Q k bb gN f0 hu.O;obtain⟨c9,hX⟩:=eX (F-1);have hj:wrap64 ((F:Int)-1)=(c9:Int):=by unfold wrap64;omega
       have ic:(c9:Int) % 4294967296=(c9:Int):=by omega
       have ie:¬(c9:Int)=0:=by omega
       have ih:¬(F:Int)=0:=by omega
       have ii:¬F=0:=by omega
       have ib:=(aR _).trans hj;rw[show((F:Int)-1)=(c9:Int) by omega] at dz;obtain⟨bs,c5⟩:=eX (1+Q % (F-1));obtain⟨q,d9⟩:=eX ((k+bs) % F);rw[<-c5] at dz e0;rw[<-c5,<-d9] at e1;have ar:q<F/\q≠k:=by rw[d9,c5];exact C9 Q k bb f0
       obtain⟨a0,db⟩ :∃t,f.tps[q]?=some t:=⟨f.tps[q]'(by rw[<-bf];exact ar.1),gG _⟩
       obtain⟨ji,h4⟩ :∃t,l.ths[q]?=some t:=⟨l.ths[q]'(by rw[K.2.2.1,<-a4];exact ar.1),gG _⟩
       obtain⟨i7,cq,j0,j2,dw,hg,_⟩:=D.O.thW db h4;have h5:a0≠tp:=λe=>ar.2 ((D.O.p15 (by decide)).2.2 q k a0 db (by rw[E.O.2.1,e];exact a7.O.1))
       obtain⟨H,hQ⟩ :∃H,ho=some ⟨H,0,none⟩:=by
        rcases dj aw with⟨_,e⟩|⟨g,c,e,_⟩
        ·omega
        ·rw[a3] at e
         exact⟨g,by injection e⟩
       subst hQ
       have er:m.cell? ⟨H,q,none⟩=some (.pointer (some ⟨a0,0,none⟩)):=by
        rw[a3] at aw;have:=World.ownsRow.cells aw (g:=H) rfl q (ptr a0) (by rw[yJ,db];rfl);rw[bw,yq] at this;exact this
       have gq:u H=5:=dd H (by rw[a3];rfl);obtain⟨a5,dl⟩ :∃x,l.ds[q]?=some x:=⟨l.ds[q]'(by rw[K.2.2.2,hF.O.nlen,<-a4];exact ar.1),gG _⟩
       obtain⟨hN,cd,X,T,_,_,_,ai⟩:=(D.O.p3 (by decide)).dq q a5 dl;have hS:cq=hN:=yz (dw.symm.trans X);subst hS;have hH:Hd (∀W,ac m W->Calls Tryz.prog 85 #[.pointer (some ⟨cq,0,none⟩)] W λe w'=>e=.returned (.tuple #[.pointer (some ⟨W.heap.size,0,none⟩),.int .i64 0])/\aa (λb=>u b=3) W w'/\W.heap.size<w'.heap.size/\∀y:aT,y.d=a5.d->y.acts=a5.acts++ [cQ 2 0]->y.on=a5.on->DW w' (λb=>u b=3\/W.heap.size<=b/\b<w'.heap.size) f.m f.n f.v l.C (l.ds.set q y) f.dp (f.ps.set q (cd++ [W.heap.size]))):=hD λW ba=>uG ((D.O.U ba).p3 (by decide)) e7.O.many dl dw T
       have h1:u L.pb=1:=by have:=(D.O.p1 (by decide)).1;rw[E.O.1] at this;exact this
       have c2:Hd (∀W,aa (λb=>u b=3\/b=tp) m W->aa (λb=>u b=3\/b=tp) m W/\W.cell? ⟨L.pb,3,none⟩=some (.slice (some ⟨H,0,none⟩) F g8)/\W.cell? ⟨H,q,none⟩=some (.pointer (some ⟨a0,0,none⟩))/\W.cell? ⟨a0,2,none⟩=some (.pointer (some ⟨cq,0,none⟩))):=hD λW ba=>by
        have am:¬(u L.pb=3\/L.pb=tp):=λe=>e.elim (λe=>by omega) (λe=>by rw[e,b2.O] at h1;omega)
        have cr:¬(u H=3\/H=tp):=λe=>e.elim (λe=>by omega) (λe=>by rw[e,b2.O] at gq;omega)
        have b8:¬(u a0=3\/a0=tp):=λe=>e.elim (λe=>by omega) h5
        exact⟨ba,by rw[(ba.J R am).I 3];simp[bB,a3],(ba.I (p:=⟨H,q,none⟩) (block_lt_of_cell er) cr).trans er,by rw[(ba.J hg b8).I 2];simp[dQ,ptr]⟩
       obtain⟨kb,gx⟩:=eX (k+bs);rw[<-gx] at e0 e1;have i8:=(aR _).trans e0;obtain⟨dn,fl⟩:=ca ar.1;have ia:(kb:Int).tmod (F:Int)=(q:Int):=by rw[<-e1];exact Int.tmod_eq_emod_of_nonneg (zD _)
       have Z:=c2.O m oR;have N:=hD (aI dl (aI dw (aI T (aI ai ar))));have bt:=hD (aI K a4);have cp:=hD (aI d9 c5);have b1:=hD (aI V (aI a9 bb));clear R K dd aw a3 f7 bb V bz bf a4 eL d3 dl dw hg X T ai ar a9 d9 c5 gx gN f0 db h4 i7 h5 er gq h1 hX;go_upto_region 16 with fail;rw[dz];clear dz gB a8 g7 hj ic ie ib
       go_region_held3 (λW=>aa (λb=>u b=3\/b=tp) m W/\W.cell? ⟨L.pb,3,none⟩=some (.slice (some ⟨H,0,none⟩) F g8)/\W.cell? ⟨H,q,none⟩=some (.pointer (some ⟨a0,0,none⟩))/\W.cell? ⟨a0,2,none⟩=some (.pointer (some ⟨cq,0,none⟩)))
        (first|with_reducible exact c2.O _ g4.O|with_reducible exact c2.O _ (aa.setCell g4.O (Or.inl (Or.inr rfl)) _)|with_reducible exact c2.O _ (aa.drew oR)|with_reducible exact c2.O _ oR|fail)
        (first
         |(go_at_call 85;refine(hH.O m.drew (aa.drew oR)).mono ?_;rintro e Y ⟨rfl,fq,j6,gb⟩;have g4:Hd (aa (λb=>u b=3\/b=tp) m Y):=hD (aa.trans (aa.drew oR) (aa.mono fq λb e=>Or.inl e));have b4:=hD fq;have hr:=hD gb;clear fq gb;have b7:=b4.O.J (ae.drew hs.O) (λe=>by rw[b2.O] at e;exact absurd e (by decide));have hk:=b7.I 0;have hl:=b7.I 1;have ef:=b7.fz 0;have eg:=b7.fz 1;have e6:=hD b7;simp[dQ] at hk hl;clear b7)
         |fail)
       clear Z hk hl ef eg;have e2:(Y.setCell ⟨tp,0,none⟩ (.pointer (some ⟨m.heap.size,0,none⟩))).cell? ⟨tp,1,none⟩=some (.int .i64 0):=by rw[(e6.O.s_ 0 _).I 1];simp[dQ]
       have fs:=(e6.O.s_ 0 (.pointer (some ⟨m.heap.size,0,none⟩))).fz 1;clear e0 i8 e1 ia ih ii dn fl;go_wp2_with fail;go_ret;have cv:=D.O.U (aa.drew (aa.refl (λ_=>False) m));have hR:=hr.O (ly a5) rfl rfl rfl;have c0:=(cv.part (i:=3) b4.O).fill3 (hR.mo (kG cv.tlt (by decide))) (iZ.snoc N.O.2.2.1 _);obtain⟨hh,fb⟩ :∃t,t=cS u m.drew Y 3:=⟨_,rfl⟩
       rw[<-fb] at c0;have hZ:hh tp=15:=by rw[fb,bJ cv.tlt tp (by rw[b2.O];decide)];exact b2.O
       obtain⟨hP,i4⟩:=c0.setAct (kd':=3) (a:=(q,a5.acts.length)) (p:=m.heap.size) (pl:=cd++ [m.heap.size]) (by show f.tps[k]?=some tp;rw[E.O.2.1];exact a7.O.1) a6.O.1 (by show f.dp[k]?=_;rw[E.O.2.2.1];exact a1.O.2.1) e6.O (by rw[show({f with n:=f.n,v:=f.v,ps:=f.ps.set q (cd++ [m.drew.heap.size])}:cP).fp=L.fp from E.O.2.2.2.1];exact a1.O.2.2.1) a1.O.2.2.2 (bD (gS N.O.2.2.1).1) (by show(cd++ [_])[a5.acts.length]?=_;rw[<-N.O.2.2.2.1];simp)
       have hT:jk l k q= {{l with C:=l.C,ds:=l.ds.set q (ly a5)} with ths:=l.ths.set k {act:=some (q,a5.acts.length),kn:=3,cur:=th.cur,run:=th.run}}:=by
        unfold jk;rw[PS.dq_eq N.O.1,PS.th_eq a6.O.1]
       refine⟨true,_,rfl,b0.O (jk l k q) (by rw[yb ab,yb bm,yb (λe=>e.2 b1.O.2.1),yf ⟨b1.O.1,by rw[<-bt.O.2];exact b1.O.2.2⟩,cp.O.1,cp.O.2,bt.O.2]),hh,({f with ps:=f.ps.set q (cd++ [m.heap.size])}:cP),by rw[hT];exact hP,?_,?_⟩
       ·refine((b5.O.trans (aQ.U (aa.drew (aa.refl _ m)))).trans ?_).trans (aQ.same (i:=15) (by decide) (i4.mono λb e=>by rw[e];exact hZ))
        rw[fb];exact aQ.part cv.tlt (by decide) b4.O
       ·obtain⟨X,T,cf,cg,ch,ai,ci,ck⟩:=b3.O
        exact LK.mo (d:=1) ⟨X,T,cf,cg,ch,ai,ci,ck⟩ (by decide)
      ·have gB:¬(1:Int)<(F:Int):=by omega
       have e8:=hD (aI a4 (aI a9 bb));have b1:=hD V;clear R K dd aw a3 a9 f7 bb V bz bf a4 eL d3;go_wp2_with fail;go_ret;exact⟨false,l,rfl,b0.O l (by rw[yb ab,yb bm,yb (λe=>e.2 e8.O.2.1),yb (λe=>e8.O.2.2 (by rw[e8.O.1];exact e.2))]),u,f,D.O,b5.O,b3.O.mo (by decide)⟩
     ·obtain⟨B,ad,f6⟩ :∃B ad,s.queue=B :: ad:=by
       cases hc:s.queue with
       |nil=>exact absurd hc a9
       |cons B ad=>exact⟨B,ad,rfl⟩
      obtain⟨f4,f5⟩:=D.O.p6 (by decide);rw[K.2.1,f6] at f4 f5;obtain⟨g,o,c,cur,am,cr,b8,a2,gc,ge,ee⟩:=f4.resolve_left (λe=>by cases e.2);obtain⟨he,f2⟩:=eX ad.length;rw[zo,<-f2] at am a2;obtain⟨X,T⟩:=ee 0 B rfl;have i6:m.cell? ⟨g,o,none⟩=some (.int .u64 B.job):=by rw[b8.I];simpa using X
      have dv:m.cell? ⟨g,o+1,none⟩=some (.string (sB B.M)):=by rw[b8.I];simpa using T
      have a8:=R.I 6;simp[bB,am] at a8;have dn:(0:Int)<((he+1:Nat):Int):=by omega
      obtain⟨bn,d7⟩:=eX (he+1);rw[<-d7] at am a2 dn;have hL:m.cell? ⟨L.pb,6,none⟩=some (.slice (some ⟨g,o,none⟩) bn c):=by rw[d7];exact a8
      have N:=hD (aI f6 (aI f2 (aI am (aI d7 (aI cr (aI a2 (aI gc (aI ge ee))))))));have cp:=hD b8;have fw:=hD f5;have hE:=hD R;have b1:=hD (aI V a9);have bt:=hD K;clear R K dd aw a3 a9 V bf a4 eL d3 f6 f4 f5 am cr b8 a2 gc ge ee f2 X T a8 d7;go_upto_region 12 with fail;obtain⟨Y,d0⟩:=eX (m.alloc (.cells #[.int .u64 B.job,.string (sB B.M)] 58));obtain⟨ei,d2⟩:=eX m.heap.size;rw[<-d0,<-d2];have dr:ac m Y:=by rw[d0];exact oR.alloc _
      have g6:ae Y ei 58 #[.int .u64 B.job,.string (sB B.M)]:=by rw[d0,d2];exact bN
      have c0:=D.O.U dr;have d8:=dr.J hE.O nF;clear i6 dv hL dn;have a8:Y.cell? ⟨L.pb,6,none⟩=some (.slice (some ⟨g,o,none⟩) bn c):=by rw[d8.I 6];simp[bB,N.O.2.2.1]
      have hO:=d8.fz 6;have fl:¬((bn:Nat):Int)<1:=by rw[N.O.2.2.2.1];omega
      have i0:¬((c:Nat):Int)<((bn:Nat):Int):=by have:=N.O.2.2.2.2.2.1;omega
      have i1:1<=bn:=by rw[N.O.2.2.2.1];omega
      have i2:=N.O.2.2.2.2.2.1;have ht:=hD g6;have e5:=hD c0;have hC:=hD d8;have b4:=hD dr;have hy:Hd (m.heap.size<=ei):=hD (by rw[d2];exact lR);clear d0 d2 g6 c0 d8 dr;go_upto_region 13 with fail;obtain⟨qv',f8⟩ :∃v,v=Value.slice (if c=1 then some ⟨g,o,none⟩ else some ⟨g,o+2,none⟩) (bn-1) (c-1):=⟨_,rfl⟩
      rw[<-f8];obtain⟨bv,d1⟩:=eX (Y.setCell ⟨L.pb,6,none⟩ qv');rw[<-d1];have bo:aa (λb=>b=L.pb) Y bv:=by rw[d1];exact af _ _ _ _
      have h0:ae bv L.pb 123 (bB {f with qv:=qv'}):=by rw[d1];have:=hC.O.s_ 6 qv';simpa[bB] using this
      have bk:u L.pb=1:=by have:=(e5.O.p1 (by decide)).1;rw[E.O.1] at this;exact this
      obtain⟨e2,fs,ik,hm,e3,il,is,it,hn⟩:=N.O
      have go:rq bv (λb=>u b=6) qv' ad:=by
       refine .inr ⟨g,if c=1 then o else o+2,c-1,cur,?_,e3,bo.J (b4.O.J cp.O nF) (λe=>by rw[e,bk] at e3;exact absurd e3 (by decide)),by omega,by split<;>omega,by omega,λi n gt=>?_⟩
       ·rw[f8,hm,fs]
        congr 1
        split<;>rfl
       ·have j3:=(gS gt).1
        rw[yb (by omega)];have:=hn (i+1) n (by simpa using gt);rw[show o+2+i*2=o+(i+1)*2 by omega];exact this
      have ek:aX bv u {f with qv:=qv'} {l with queue:=ad}:=((e5.O.kp (i:=1) (tag':=u) bo (λb e=>by rw[e];exact bk) (λ_ _=>rfl) (λb H=>lL (e5.O.tlt b H) bo.size)).mono (λj _ gu=>by simp at gu;rw[gu];simp)).fillQ ⟨by rw[show({f with qv:=qv'}:cP).pb=L.pb from E.O.1];exact bk,by rw[show({f with qv:=qv'}:cP).pb=L.pb from E.O.1];exact h0⟩ ⟨go,λn hW=>fw.O n (yV _ hW)⟩;have en:=e7.O.unqueue (by rw[bt.O.2.1,e2];simp);rw[bt.O.2.1,e2] at en;have hJ:Hd (aQ w bv tag u):=hD (((b5.O.trans (aQ.U b4.O)).trans (aQ.same (i:=1) (by decide) (bo.mono λb e=>by rw[e];exact bk))))
      have g2:Hd (LK L {f with qv:=qv'} s {l with queue:=ad} 1):=hD (by
       obtain⟨X,T,cf,cg,ch,ai,ci,ck⟩:=b3.O;exact⟨X,T,cf,cg,ch,ai,ci,ck⟩)
      obtain⟨ea,eq⟩:=eX ({f with qv:=qv'}:cP);rw[<-eq] at ek g2;have a2:ea.pb=L.pb/\ea.tps=L.tps/\ea.fn=L.fn:=by rw[eq];exact⟨E.O.1,E.O.2.1,E.O.2.2.2.2⟩
      have al:=hD (qW (n:=B) ek en ft.O (by rw[a2.2.1];exact a7.O.1) a6.O.1 (fw.O B zh) (by rw[a2.2.2];exact cm.O.fn));rw[a2.1] at al;unfold ptr aV eT at al;have gr:=bo.J ht.O (λe=>by have b9:u ei=0:=hU D.O.tlt hy.O;rw[e,bk] at b9;exact absurd b9 (by decide));obtain⟨j7,j8⟩:=gr.gE2;clear a8 hO fl i0 i1 i2 f8 d1 bo h0 bk e2 fs ik hm e3 il is it hn go ek en gr eq a2
      go_wp2_with (go_at_call 84;refine al.O.mono ?_;rintro e iz ⟨rfl,fr⟩)
      go_ret;refine⟨true,_,rfl,b0.O _ ?_,(cV.then hJ.O g2.O fr).mo (by decide)⟩;rw[yb ab,yb bm,yf b1.O,N.O.1];rfl
    ·have j5:((th.kn:Int)==2)=false:=bF (λe=>V (by omega))
     go_wp2_with fail;go_ret;exact⟨false,l,rfl,b0.O l (by rw[yb ab,yb bm,yb (λe=>V e.1),yb (λe=>V e.1)]),u,f,D.O,b5.O,b3.O.mo (by decide)⟩
end
noncomputable def lx(s:PS)(n m:Nm)(r:aG)(t:aj):PS:=
 {s with T:={s.T with rw:=ay (ay s.T.rw n (some {r with opn:=r.opn+1,kn:=r.kn+1})) m (some ⟨t,1,0,⟨0,0⟩,true,0,false⟩),ks:=s.T.ks++ [m]}}
section
variable {G:dx}{w w':World}{tag tag':Nat->Nat}{L L':cP}{s s':PS}{n:Nm}{r:aG}
theorem wA(al:aX w tag L s)(c2:fC s.C s.ds){k tp:Nat}{th:Th}{x:aT}(b8:L.tps[k]?=some tp)(b1:s.ths[k]?=some th)(ch:s.T.rw th.cur=some r)(bz:r.sa=2)(ce:0<=r.opn/\r.opn<=100)(cd:dh th.cur)(t:aj)(A:Option Addr)(V:Nat)(c:UInt8)(cf:t.M=th.cur.M++ [c])
 (a4:dh ⟨th.cur.job,t.M⟩) (b7:s.T.rw ⟨th.cur.job,t.M⟩=none) (c5:(s.T.ks.length:Int)<L.most) (K:L.most<=1000000) (ba:Nat->Prop) (c1:aL w ba A t.args) (c8:t.args.length<=100000) (b4:s.known ⟨th.cur.job,t.M⟩=none) (aE:s.away ⟨th.cur.job,t.M⟩=false)
 (c9:s.nms.Nodup) (cm:s.ds[k]?=some x) (c6:own x.acts x.on=none) (cb:s.nms.length<=1000000000):
 Calls Tryz.prog 87 #[ptr L.pb,ptr tp,.agg (bO t A V)] w λb w'=>b=.returned (.tuple #[])/\cV w w' tag L s (eE (lx s th.cur ⟨th.cur.job,t.M⟩ r t) k ⟨th.cur.job,t.M⟩) 1:=by
 obtain⟨g,u⟩:=eX (⟨th.cur.job,t.M⟩ :Nm);rw[<-u] at a4 b7 b4 aE;rw[<-u];obtain⟨kp,a3⟩:=eX (sB t.M);obtain⟨cp,b3⟩:=eX t.fn;obtain⟨cn,b2⟩:=eX t.args.length;obtain⟨cq,b5⟩:=eX ((t.fuel:Int):Int);obtain⟨E,Z⟩:=eX (w.alloc (.cells #[.string kp,.int .i64 cp,.slice A cn V,.int .i64 cq] 30));have a6:ac w E:=by rw[Z];exact(aa.refl _ w).alloc _
 obtain⟨H,a1⟩:=eX w.heap.size;have ai:ae E H 30 #[.string kp,.int .i64 cp,.slice A cn V,.int .i64 cq]:=by rw[Z,a1];exact bN
 obtain⟨bp,ar⟩:=eX E.drew;have v:ac E bp:=by rw[ar];exact oR.drew
 have X:=al.U a6;have Y:=X.U v;obtain⟨ci,d,av,fv,dp,a5,dq,dr,dv,dw⟩:=X.thW b8 b1;have cg:=(X.p1 (by decide)).2;have bx:=cg.I 4;simp[bB,ptr] at bx;have cw:=a5.I 3;have cB:=a5.I 4;simp[dQ] at cw cB;obtain⟨e2,e3,e4,e5⟩:=ai.gE4;have R:=hD (DQ t A V c cf ba (Y.tagB (i:=2) (by decide)) (Y.p2 (by decide)) cd ch bz ce (by rw[<-u];exact a4) (by rw[<-u];exact b7) c5 K ((c1.kp a6 nG).kp v nG) c8);unfold bO aV eT at R;rw[<-u,<-a3,<-b3,<-b2,<-b5] at R;have bo:=hD Z.symm;have dd:=hD ar.symm;have d5:=hD a1;have Q:=hD Y;have db:=hD (a6.trans v);have bk:=hD (v.J ai nF);have d7:=hD (v.J a5 nF);have ad:=hD ci;have S:=hD (aI b8 (aI b1 (aI cm c6)));have da:=hD c2;have D:=hD (aI a4 (aI c9 (aI cb u)));have bn:=hD (aI b4 aE);have d9:=hD a3;have c7:tag H=0:=hU al.tlt (by rw[a1];exact lR);have bm:=hD c7;unfold ptr bO;rw[<-a3,<-b3,<-b2,<-b5];clear al c2 b8 b1 ch bz ce cd cf a4 b7 c5 K c1 c8 b4 aE c9 cm c6 cb a3 b3 b2 b5 Z a6 a1 ai ar v X Y ci dp a5 dq dr dv dw cg c7;go_enter Tryz.func87,Tryz.ntmps87;go_upto_region 1 with fail;rw[bo.O,<-d5.O];clear bo
 go_still_tail 9,(by kernel_rfl)
 change wpList _ _ _ _ _ E.drew;rw[dd.O];clear bx cw cB e2 e3 e4 e5
 go_upto_region 2 with(go_at_call 141;refine R.O.mono ?_;rintro b e ⟨rfl,⟨q,e0,e1,cv⟩,P⟩)
 have c3:=cv ⟨t,1,0,⟨0,0⟩,true,0,false⟩ {r with opn:=r.opn+1,kn:=r.kn+1} rfl rfl rfl rfl rfl rfl rfl rfl rfl rfl;have c4:=Q.O.part (i:=2) P;obtain⟨y,N⟩ :∃t,t=cS tag bp e 2:=⟨_,rfl⟩
 have am:=c4.fill2 (T':=(lx s th.cur g r t).T) (by
  have:=c3.mo (kG Q.O.tlt (i:=2) (by decide));show bQ e _ _ _ _ (ay (ay s.T.rw th.cur _) g _) (s.T.ks++ [g]).length _;rw[yk];exact this) rfl
 rw[<-N] at am;have dk:Hd (aQ w e tag y):=hD ((aQ.U db.O).trans (by rw[N];exact aQ.part Q.O.tlt (by decide) P));have ck:y tp=15:=by rw[N,bJ Q.O.tlt tp (by rw[ad.O];decide)];exact ad.O
 have br:=P.J d7.O (λb=>by rw[ad.O] at b;exact absurd b (by decide));have bt:=P.J bk.O (λb=>by rw[bm.O] at b;exact absurd b (by decide));have d2:=hD br;have d4:=hD bt;have d0:=hD am
 have e6:=hD (aI ck (show y H=0 by
  rw[N];unfold cS;rw[yb (λb=>absurd bk.O.lt (zC.2 b.1))];exact bm.O))
 have a:Hd (∀W,ac e W->ac e W/\W.cell? ⟨tp,3,none⟩=some (.int .u64 th.cur.job)/\W.cell? ⟨H,0,none⟩=some (.string kp)):=hD λW m=>⟨m,by rw[(m.J d2.O nF).I 3];simp[dQ],(m.J d4.O nF).I 0⟩
 have an:=a.O e oR;clear e0 e1 cv P c3 c4 N am ck br bt R
 go_region_held3 (λW=>ac e W/\W.cell? ⟨tp,3,none⟩=some (.int .u64 th.cur.job)/\W.cell? ⟨H,0,none⟩=some (.string kp))
  (first|with_reducible exact a.O _ (aa.drew oR)|with_reducible exact a.O _ oR|with_reducible exact a.O _ (aa.alloc oR _)|with_reducible exact a.O _ (aa.alloc (aa.drew oR) _)|with_reducible exact a.O _ (aa.drew (aa.alloc oR _))|fail) (fail)
 clear an a;have b6:aV g=.agg #[.int .u64 th.cur.job,.string kp]:=by rw[D.O.2.2.2,d9.O];rfl
 have B:=hD b6;obtain⟨F,b0⟩:=eX e.heap.size;obtain⟨f,a0⟩:=eX ((e.alloc (.cells #[.int .u64 th.cur.job,.string kp] 58)).drew);rw[<-a0,<-b0];have b9:ac e f:=by rw[a0];exact(oR.alloc _).drew
 have bf:Hd (ae f F 58 #[.int .u64 th.cur.job,.string kp]):=hD (by rw[a0,b0];exact bN.drew);have bb:=hD (d0.O.U b9);have dl:Hd (aQ w f tag y):=hD (dk.O.trans (aQ.U b9));obtain⟨e8,a2⟩:=D.O.1.key;rw[b6] at a2
 have a:Hd (∀W,ac f W->ac f W/\W.cell? ⟨L.pb,10,none⟩=some (.map (some L.kb))/\W.cell? ⟨F,0,none⟩=some (.int .u64 th.cur.job)/\W.cell? ⟨F,1,none⟩=some (.string kp)/\(Instr.lookup 120 (.map (some L.kb)) (.agg #[.int .u64 th.cur.job,.string kp]) true).run Tryz.prog W=.ok (.tuple #[.agg #[.int .i64 0,.int .i64 0],.bool false]) W):=hD λW m=>by
  have l:=bb.O.U m;have K:=m.J bf.O nF;have o:=(l.p12 (by decide)).2.look2 (t:=120) fF Tryz.underlying120 (z:=.agg #[.int .i64 0,.int .i64 0]) (by kernel_rfl) a2;rw[<-B.O,gl] at o;rw[<-B.O,o];refine⟨m,by have:=(l.p1 (by decide)).2.I 10;simpa[bB] using this,K.I 0,K.I 1,?_⟩;show Result.ok (Value.tuple #[((s.known g).map eO).getD _,.bool ((s.known g).map eO).isSome]) W=_;rw[bn.O.1];rfl
 have an:=a.O f oR;have d8:=hD a2;clear a0 b0 b9 a2 b6;go_upto_region 3 with fail
 go_region_held3 (λW=>ac f W/\W.cell? ⟨L.pb,10,none⟩=some (.map (some L.kb))/\W.cell? ⟨F,0,none⟩=some (.int .u64 th.cur.job)/\W.cell? ⟨F,1,none⟩=some (.string kp)/\(Instr.lookup 120 (.map (some L.kb)) (.agg #[.int .u64 th.cur.job,.string kp]) true).run Tryz.prog W=.ok (.tuple #[.agg #[.int .i64 0,.int .i64 0],.bool false]) W)
  (first|with_reducible exact a.O _ (aa.drew oR)|with_reducible exact a.O _ oR|with_reducible exact a.O _ (aa.alloc oR _)|with_reducible exact a.O _ (aa.alloc (aa.drew oR) _)|with_reducible exact a.O _ (aa.drew (aa.alloc oR _))|fail) (fail)
 all_goals (
  clear an a;obtain⟨j,aw⟩:=eX ((f.alloc (.cells #[.int .i64 0,.int .i64 0] 35)).drew);rw[<-aw];have a7:ac f j:=by rw[aw];exact(oR.alloc _).drew
  have l:=bb.O.U a7;have p:=a7.J bf.O nF;have bv:=(l.p1 (by decide)).2.I 11;simp[bB] at bv
  have o:∀q,(Instr.lookup 121 (.map (some L.ab)) (.agg #[.int .u64 th.cur.job,.string kp]) false).run Tryz.prog (j.drewN q)=.ok (.int .i64 0) (j.drewN q):=λq=>by
   have o:=(((l.p13 (by decide)).2).heap (w':=j.drewN q) rfl).look (t:=121) fF Tryz.underlying121 (z:=.int .i64 0) (by kernel_rfl) d8.O;rw[<-B.O,gl] at o;rw[<-B.O,o];show Result.ok ((if s.away g=true then some (Value.int .i64 1) else none).getD _) _=_;rw[bn.O.2];rfl
  obtain⟨cr,cs⟩:=p.gE2;have d1:=hD l;have d3:=hD p;have dm:Hd (aQ w j tag y):=hD (dl.O.trans (aQ.U a7));clear aw a7 l p;go_upto_region 8 with fail
  go_quiet (fail)
  clear o bv cr cs;obtain⟨bq,az⟩:=eX (j.drewN nq);rw[<-az];have a8:ac j bq:=by rw[az];exact oR.drewN nq
  have c0:=d1.O.U a8;have p:=a8.J d3.O nF;obtain⟨cr,cs⟩:=p.gE2;have a9:=hD (sg (n:=g) c0 da.O S.O.1 S.O.2.1 D.O.1 D.O.2.1 S.O.2.2.1 S.O.2.2.2 D.O.2.2.1);rw[B.O] at a9;unfold ptr at a9;have dn:Hd (aQ w bq tag y):=hD (dm.O.trans (aQ.U a8));clear az a8 c0 p
  go_wp2_with (go_at_call 93;refine a9.O.mono ?_;rintro b e7 ⟨rfl,dz⟩)
  go_end0
  refine⟨rfl,(cV.then (s':=lx s th.cur g r t) (d:=0) dn.O ?_ dz).mo (by decide)⟩;exact⟨rfl,rfl,rfl,rfl,by simp,by simp,by simp[lx],[],by simp[lx],by simp⟩)
end
theorem tA{t:TS}{n:Nm}{r:aG}{f:Fr}(c:t.rw n=some r)(b:r.sa=2):iJ t n r 2 f= {t with fm:=ay t.fm n (some f)}:=by
 have a:({r with sa:=2}:aG)=r:=by rw[<-b]
 unfold iJ;rw[a,<-c,jU]
section
variable {G:dx}{w w':World}{tag tag':Nat->Nat}{L L':cP}{s s':PS}{n:Nm}{r:aG}
theorem Dg(av:Value)(kd d:Nat)(cur:Nm)(fv:Value):(((dQ av kd d cur fv).setIfInBounds 3 (.int .u64 0)).setIfInBounds 4 (.string ⟨#[]⟩)).setIfInBounds 5 (.pointer none)=dQ av kd d gU (.pointer none):=by
 simp[dQ,gU,sB]
theorem sh(f:aX w tag L s){k tp:Nat}{th:Th}(i:L.tps[k]?=some tp)(g:s.ths[k]?=some th):
 Calls Tryz.prog 77 #[ptr tp] w λe w'=>e=.returned (.tuple #[])/\aX w' tag L {s with ths:=s.ths.set k {th with cur:=gU,run:=false}}/\aa (λb=>b=tp) w w':=by
 obtain⟨y,d,av,fv,m,a,o,p,z,A⟩:=f.thW i g;have u:=a.I 3;have v:=a.I 4;have x:=a.I 5;simp[dQ] at u v x;have C:=a.fz 3;have D:=a.fz 4;have E:=a.fz 5;have B:(w.setCell ⟨tp,3,none⟩ (.int .u64 0)).cell? ⟨tp,4,none⟩=some (.string (sB th.cur.M)):=by rw[(a.s_ 3 _).I 4];simp[dQ]
 have c:=hD (aI m (aI a (aI o p)));have t:=hD f;have j:=hD (aI i g);unfold ptr;clear f i g y m a o p z A;go_enter Tryz.func77,Tryz.ntmps77;go_wp2_with fail
 go_end0
 have l:=((c.O.2.1.s_ 3 (.int .u64 0)).s_ 4 (.string ⟨#[]⟩)).s_ 5 (.pointer none);rw[Dg] at l;have q:aa (λb=>b=tp) w (((w.setCell ⟨tp,3,none⟩ (.int .u64 0)).setCell ⟨tp,4,none⟩ (.string ⟨#[]⟩)).setCell ⟨tp,5,none⟩ (.pointer none)):=((af _ tp 3 _).trans (af _ tp 4 _)).trans (af _ tp 5 _);exact⟨rfl,aY.thread (k:=k) (th:=th) (av:=av) {th with cur:=gU,run:=false} t.O j.O.2 j.O.1 c.O.1 q l c.O.2.2.1 c.O.2.2.2 (λe=>by cases e) (λ_=>rfl),q⟩
structure gP(G:dx)(w:World)(tag:Nat->Nat)(L:cP)(s:PS)(k tp:Nat)(th:Th)(r:aG)(p:List ah)(f:Fr):Prop where
 h:aX w tag L s
 inv:aH G s (λ_=>False)
 htp:L.tps[k]?=some tp
 hk:s.ths[k]?=some th
 ha:th.act=none
 hrun:th.run=true
 hr:s.T.rw th.cur=some r
 h2:r.sa=2
 hf:s.T.fm th.cur=some f
 hfi:kw p r f
 hpr:s.prog th.cur.job=p
 hg:∃x,G th.cur.job=some (p,x)/\bK p x th.cur.M=some r.tk
 hP:lH p
 hT:bW p r.tk
 hn:dh th.cur
theorem gP.mk'(v:aX w tag L s)(a:aH G s (λ_=>False))(y:gL G){k tp:Nat}{th:Th}(A:L.tps[k]?=some tp)(e:s.ths[k]?=some th)(z:th.act=none)(g:th.run=true):∃r p f,gP G w tag L s k tp th r p f:=by
 obtain⟨r,p,x,f,c,m,d,o,q,t,u⟩:=a.current e g;obtain⟨F,H,b,B,C,D,E,i,j,l⟩:=a.row_ok y c;rw[d] at b
 cases b
 exact⟨r,p,f,v,a,A,e,z,g,c,m,q,t,u,⟨x,d,o⟩,i,j,l⟩
structure qx(w W3:World)(tag tag3:Nat->Nat)(L L3:cP)(s:PS)(k tp gn g5:Nat)(th:Th)(f':Fr)(cs:Array Value):Prop where
 h:aX W3 tag3 L3 {s with T:={s.T with fm:=ay s.T.fm th.cur (some f')}}
 go:aQ w W3 tag tag3
 bn:ae W3 gn 58 #[.int .u64 th.cur.job,.string (sB th.cur.M)]
 bs:ae W3 g5 181 cs
 lk:L3= {L with fl:=L3.fl}
 t0:tag3 gn=0/\tag3 g5=0
 sz:w.heap.size<=gn/\w.heap.size<=g5
 tp15:tag3 tp=15
theorem wG{k tp:Nat}{th:Th}{p:List ah}{f:Fr}(a:gP G w tag L s k tp th r p f)(W:(f.run1 p).2=.more):
 Calls Tryz.prog 46 #[ptr L.pb,ptr tp] w λc w'=>c=.returned (.tuple #[])/\cV w w' tag L s (eW s k) 4:=by
 have N:=a.h;obtain⟨al,d,av,fv,b8,P,b9,ba,an,bb⟩:=N.thW a.htp a.hk;obtain⟨q,K⟩:=eX (L.fp th.cur);have ab:=an a.hrun;rw[<-K] at ab;subst ab;have aw:=P.I 3;have az:=P.I 4;simp[dQ] at aw az;obtain⟨A,E⟩:=eX (w.alloc (.cells #[.int .u64 th.cur.job,.string (sB th.cur.M)] 58));have Q:ac w A:=by rw[E];exact(aa.refl _ w).alloc _
 obtain⟨V,H⟩:=eX w.heap.size;have a4:ae A V 58 #[.int .u64 th.cur.job,.string (sB th.cur.M)]:=by rw[E,H];exact bN
 have C:=N.U Q;obtain⟨S,B⟩:=C.p16 th.cur f a.hf (by simp);rw[a.hpr,<-K] at S;rw[a.hpr] at B;have l:=hD (pi (C.tagB (i:=100+q) (by omega)) S a.hP.ok (B a.hfi.res) a.hfi.res);unfold pW at l;obtain⟨f',m⟩:=eX ((f.run1 p).1);rw[W,<-m] at l;simp only[iX,uw] at l;have am:=Q.J P nF;have aE:=am.I 5;simp[dQ,ptr] at aE;have e:=hD a;have a3:=hD E.symm;have Z:=hD H;have z:=hD C;have a1:=hD Q;have X:=hD a4;have b3:=hD K;have b1:=hD m;have b4:=hD W;have a2:=hD al;have ad:tag V=0:=hU N.tlt (by rw[H];exact lR);have Y:=hD ad
 have b2:Hd (f'.result=none->gK p f'):=hD λb6=>by
  rcases qY a.hP.ok (B a.hfi.res) with⟨x,c,_⟩|⟨c,_⟩
  ·have:=(jS a.hfi.ok a.hfi.res (p:=p)).done x c
   rw[<-m,b6] at this
   cases this.2.2
  ·rw[m];exact c
 unfold ptr;clear a N al b8 P b9 ba an bb K E Q H a4 C S B m W am ad;go_enter Tryz.func46,Tryz.ntmps46;go_upto_region 1 with fail;rw[a3.O,<-Z.O];clear a3 aw az
 go_upto_region 2 with(go_at_call 86;refine l.O.mono ?_;rintro c g ⟨bk,bn,rfl,⟨ar,a5⟩,v,b7⟩)
 clear l aE;obtain⟨R,F⟩:=eX (g.alloc (.cells #[.int .u8 1,.string ⟨#[]⟩,.int .i64 0,.slice none 0 0,.int .i64 0,.int .i64 0,.int .i64 0] 181));obtain⟨a7,o⟩:=eX g.heap.size;rw[<-F,<-o];have y:ac g R:=by rw[F];exact oR.alloc _
 have bs:ae R a7 181 #[.int .u8 1,.string ⟨#[]⟩,.int .i64 0,.slice none 0 0,.int .i64 0,.int .i64 0,.int .i64 0]:=by rw[F,o];exact bN
 obtain⟨b0,u⟩ :∃t,t=cS tag A g (100+q):=⟨_,rfl⟩
 have a9:=z.O.part (i:=100+q) v
 have a6:aZ g (λb=>cS tag A g (100+q) b=100+q) q ar p f':=a5.mo λb j=>by
  rcases j with j|j
  ·exact(bJ z.O.tlt b (by rw[j];omega)).trans j
  ·exact fR j
 have ai:s.T.fm th.cur≠none:=by rw[e.O.hf];simp
 have D:=a9.frame (n:=th.cur) b3.O ai (by rw[e.O.hpr];exact a6) (by rw[e.O.hpr];exact b2.O);rw[<-u] at D
 have a8:qx w R tag b0 L {L with fl:=ay L.fl th.cur ar} s k tp V a7 th f' #[.int .u8 1,.string ⟨#[]⟩,.int .i64 0,.slice none 0 0,.int .i64 0,.int .i64 0,.int .i64 0]:=⟨D.U y,((aQ.U a1.O).trans (by rw[u];exact aQ.part z.O.tlt (by omega) v)).trans (aQ.U y),y.J (v.J X.O (λc=>by rw[Y.O] at c;omega)) nF,bs,rfl,⟨by
  rw[u];unfold cS;rw[yb (λc=>absurd X.O.lt (zC.2 c.1))];exact Y.O,hU D.tlt (by rw[o];exact lR)⟩,⟨by rw[Z.O];exact lR,by rw[o];exact lT a1.O.size v.size⟩,by rw[u,bJ z.O.tlt tp (by rw[a2.O];decide)];exact a2.O⟩
 have a0:=hD a8;have bm:=hD y;clear F o y u a9 a5 a6 ai D a8;have bf:=bs.I 0;simp at bf;clear bs v b7;go_wp2_with fail
 go_end0
 have b5:eW s k= {s with T:={s.T with fm:=ay s.T.fm th.cur (some f')}}:=by
  unfold eW;rw[PS.th_eq e.O.hk,e.O.hr,e.O.hf];simp only;rw[e.O.hpr,b4.O];simp only;rw[tA e.O.hr e.O.h2,b1.O]
 rw[b5];exact⟨rfl,b0,_,a0.O.h,a0.O.go,⟨rfl,rfl,rfl,rfl,by simp;omega,by simp;omega,by simp;omega,[],by simp,by simp⟩⟩
theorem gP.step{k tp:Nat}{th:Th}{p:List ah}{f:Fr}(a:gP G w tag L s k tp th r p f):lI p f (jw p r.tk r.kn) (f.run1 p):=jS a.hfi.ok a.hfi.res
theorem gP.opn{k tp:Nat}{th:Th}{p:List ah}{f:Fr}(a:gP G w tag L s k tp th r p f):0<=r.opn/\r.opn<=16:=by
 have b:=a.inv.t.row _ _ a.hr;have c:=b.opn;have d:=b.kn
 have e:dZ s.T.rw th.cur r.kn<=r.kn:=by
  unfold dZ;exact lT (List.length_filter_le _ _) (by simp)
 omega
theorem gP.fk{k tp:Nat}{th:Th}{p:List ah}{f:Fr}{t:aj}(a:gP G w tag L s k tp th r p f)(q:(f.run1 p).2=.fork t):
 (⟨th.cur.job,t.M⟩ :Nm)=aF th.cur r.kn/\s.T.rw ⟨th.cur.job,t.M⟩=none/\t.M=th.cur.M++ [UInt8.ofNat (r.kn+1)]/\dh ⟨th.cur.job,t.M⟩/\t.args.length<=100000/\(aS p r.tk)[r.kn]?=some t/\∃x u,G th.cur.job=some (p,x)/\bK p x t.M=some u:=by
 have o:=a.step;have l:f.run1 p=((f.run1 p).1,.fork t):=by rw[<-q]
 obtain⟨d,v,z⟩:=lc a.inv.t a.hr a.hfi (l ▸ o);have b:=(lA a.hP.ok a.hT).2 t (yh d);have c:=(eB d).1;have m:=a.inv.t.M a.hr;rw[m] at c;have g:(⟨th.cur.job,t.M⟩ :Nm)=aF th.cur r.kn:=by rw[c];rfl
 obtain⟨x,i,j⟩:=a.hg;have y:=b.al;have e:=a.hP.ok.fn b.fn0 b.fn1;have:=e.ar;have:=e.r16;exact⟨g,by rw[g];exact v,c,⟨a.hn.1,b.pth⟩,by omega,d,x,t,i,by rw[c];exact mC j d⟩
theorem wE{k tp:Nat}{th:Th}{p:List ah}{f:Fr}{t:aj}(c:gP G w tag L s k tp th r p f)(X:(f.run1 p).2=.fork t)(b7:kP L s)(bk:∀g,s.known g=none)(ba:∀g,s.away g=false)(bm:L.most<=1000000)
 (bo:∀g p x u,s.T.rw g=none->G g.job=some (p,x)->bK p x g.M=some u->(s.T.ks.length:Int)<L.most):
 Calls Tryz.prog 46 #[ptr L.pb,ptr tp] w λe w'=>e=.returned (.tuple #[])/\cV w w' tag L s (eW s k) 4:=by
 obtain⟨c2,an,c3,c4,c5,cr,x,u,c6,c7⟩:=c.fk X;have l:=hD (aI c2 (aI an (aI c3 (aI c4 (aI c5 (bo _ _ _ _ an c6 c7))))));have v:=hD (aI bk (aI ba bm));have c8:=hD b7;clear c2 an c3 c4 c5 cr c6 c7 bk ba bm bo b7;have Y:=c.h;obtain⟨bp,d,av,fv,ci,Z,ck,cm,bv,cn⟩:=Y.thW c.htp c.hk;obtain⟨q,W⟩:=eX (L.fp th.cur);have bb:=bv c.hrun;rw[<-W] at bb;subst bb;have bz:=Z.I 3;have c0:=Z.I 4;simp[dQ] at bz c0;obtain⟨H,R⟩:=eX (w.alloc (.cells #[.int .u64 th.cur.job,.string (sB th.cur.M)] 58));have a0:ac w H:=by rw[R];exact(aa.refl _ w).alloc _
 obtain⟨a5,V⟩:=eX w.heap.size;have b2:ae H a5 58 #[.int .u64 th.cur.job,.string (sB th.cur.M)]:=by rw[R,V];exact bN
 have P:=Y.U a0;obtain⟨a4,N⟩:=P.p16 th.cur f c.hf (by simp);rw[c.hpr,<-W] at a4;rw[c.hpr] at N;have z:=hD (pi (P.tagB (i:=100+q) (by omega)) a4 c.hP.ok (N c.hfi.res) c.hfi.res);unfold pW at z;obtain⟨f',A⟩:=eX ((f.run1 p).1);rw[X,<-A] at z;simp only[iX,mg] at z;have bt:=a0.J Z nF;have c1:=bt.I 5;simp[dQ,ptr] at c1;have a:=hD c;have b1:=hD R.symm;have az:=hD V;have F:=hD P;have aE:=hD a0;have ar:=hD b2;have ce:=hD W;have c9:=hD A;have cf:=hD X;have b0:=hD bp;have bf:tag a5=0:=hU Y.tlt (by rw[V];exact lR);have aw:=hD bf
 have cb:Hd (f'.result=none->gK p f'):=hD λch=>by
  rcases qY c.hP.ok (N c.hfi.res) with⟨x,e,_⟩|⟨e,_⟩
  ·have:=(jS c.hfi.ok c.hfi.res (p:=p)).done x e
   rw[<-A,ch] at this
   cases this.2.2
  ·rw[A];exact e
 unfold ptr;clear c Y bp ci Z ck cm bv cn W R a0 V b2 P a4 N A X bt bf;go_enter Tryz.func46,Tryz.ntmps46;go_upto_region 1 with fail;rw[b1.O,<-az.O];clear b1 bz c0
 go_upto_region 2 with(go_at_call 86;refine z.O.mono ?_;rintro e m ⟨E,K,rfl,⟨bx,b3⟩,D,bq⟩)
 clear z c1;obtain⟨kp,a9⟩:=eX (sB t.M);obtain⟨al,a8⟩:=eX t.fn;obtain⟨ai,a7⟩:=eX t.args.length;obtain⟨am,ab⟩:=eX ((t.fuel:Int):Int);rw[<-a9,<-a8,<-a7,<-ab];have br:=bq t rfl;obtain⟨a3,S⟩:=eX (m.alloc (.cells #[.int .u8 2,.string kp,.int .i64 al,.slice E ai K,.int .i64 am,.int .i64 0,.int .i64 0] 181));obtain⟨b5,B⟩:=eX m.heap.size;rw[<-S,<-B];have j:ac m a3:=by rw[S];exact oR.alloc _
 have bs:ae a3 b5 181 #[.int .u8 2,.string kp,.int .i64 al,.slice E ai K,.int .i64 am,.int .i64 0,.int .i64 0]:=by rw[S,B];exact bN
 obtain⟨cq,C⟩ :∃t,t=cS tag H m (100+q):=⟨_,rfl⟩
 have b9:=F.O.part (i:=100+q) D
 have b4:aZ m (λb=>cS tag H m (100+q) b=100+q) q bx p f':=b3.mo λb o=>by
  rcases o with o|o
  ·exact(bJ F.O.tlt b (by rw[o];omega)).trans o
  ·exact fR o
 have bn:s.T.fm th.cur≠none:=by rw[a.O.hf];simp
 have Q:=b9.frame (n:=th.cur) ce.O bn (by rw[a.O.hpr];exact b4) (by rw[a.O.hpr];exact cb.O);rw[<-C] at Q
 have b8:qx w a3 tag cq L {L with fl:=ay L.fl th.cur bx} s k tp a5 b5 th f' #[.int .u8 2,.string kp,.int .i64 al,.slice E ai K,.int .i64 am,.int .i64 0,.int .i64 0]:=⟨Q.U j,((aQ.U aE.O).trans (by rw[C];exact aQ.part F.O.tlt (by omega) D)).trans (aQ.U j),j.J (D.J ar.O (λe=>by rw[aw.O] at e;omega)) nF,bs,rfl,⟨by
  rw[C];unfold cS;rw[yb (λe=>absurd ar.O.lt (zC.2 e.1))];exact aw.O,hU Q.tlt (by rw[B];exact lR)⟩,⟨by rw[az.O];exact lR,by rw[B];exact lT aE.O.size D.size⟩,by rw[C,bJ F.O.tlt tp (by rw[b0.O];decide)];exact b0.O⟩
 have a2:=hD b8;have cd:=hD j;clear S B j C b9 b3 b4 bn Q b8;have b6:=a2.O.h;have j:=a2.O.go;obtain⟨y,ad⟩ :∃y,s.ds[k]?=some y:=⟨s.ds[k]'(by rw[a.O.inv.nlen];exact(gS a.O.hk).1),gG _⟩
 have a6:=(a.O.inv.th k th a.O.hk).free a.O.ha;rw[PS.dq_eq ad] at a6;have a1:=hD (wA (r:=r) (x:=y) b6 a.O.inv.many a.O.htp a.O.hk a.O.hr a.O.h2 ⟨a.O.opn.1,Ya a.O.opn.2 (by decide)⟩ a.O.hn t E K _ l.O.2.2.1 l.O.2.2.2.1 l.O.2.1 l.O.2.2.2.2.2 v.O.2.2 _ (br.kp cd.O nG) l.O.2.2.2.2.1 (v.O.1 _) (v.O.2.1 _) a.O.inv.nnodup ad a6 c8.O.nm);unfold bO ptr at a1;rw[<-a9,<-a8,<-a7,<-ab] at a1;obtain⟨cv,cw,cB,d0,d1⟩:=bs.gE5;clear bs D bq br b6 j ad a6 a9 a8 a7 ab
 go_wp2_with (go_at_call 87;refine a1.O.mono ?_;rintro e cs ⟨rfl,cp⟩)
 go_end0
 have cg:eW s k=eE (lx {s with T:={s.T with fm:=ay s.T.fm th.cur (some f')}} th.cur ⟨th.cur.job,t.M⟩ r t) k ⟨th.cur.job,t.M⟩:=by
  unfold eW;rw[PS.th_eq a.O.hk,a.O.hr,a.O.hf];simp only;rw[a.O.hpr,cf.O];simp only;unfold iU;rw[v.O.1];simp only;rw[yb (by rw[v.O.2.1];decide),l.O.1,<-c9.O];rfl
 rw[cg];refine⟨rfl,(cV.then (d:=0) a2.O.go ?_ cp).mo (by decide)⟩;exact⟨rfl,rfl,rfl,rfl,by simp,by simp,by simp,[],by simp,by simp⟩
end
theorem rm{α:Type}(f:Nm->α)(n:Nm)(x y:α):ay (ay f n x) n y=ay f n y:=by
 funext m
 by_cases a:m=n
 ·subst a;rw[aA,aA]
 ·rw[ag _ _ a,ag _ _ a,ag _ _ a]
noncomputable def vs(t:TS)(n:Nm)(r:aG):Nm:=if fz t n r=true then dI n else gU
theorem AS{rows:Nm->Option aG}{b:Nm}{i kn:Nat}(d:i<kn)(c:cI rows (aF b i)=true):1<=dZ rows b kn:=by
 unfold dZ;exact List.length_pos_of_mem (a:=i) (Yg.2 ⟨zw.2 d,c⟩)
theorem BC{G:dx}{w:World}{F:Nat->Prop}{z K:Nat}{N:Int}{cnt:Nat}{rp:Nm->Nat}{t:TS}{n:Nm}{r:aG}(y:aD)(u:∀b,F b->b<w.heap.size)(p:bQ w F z K N t.rw cnt rp)(A:cA G t)(g:t.rw n=some r)(m:r.sa=2)(v:dh n):
 Calls Tryz.prog 54 #[.pointer (some ⟨z,0,none⟩),aV n,eO y] w λe w'=>e=.returned (.tuple #[aV (vs t n r),.bool (fz t n r),.int .i64 0])/\bQ w' F z K N (bE t n r y true).rw cnt rp/\aa F w w':=by
 have Q:=A.row n r g
 rcases Q.up with⟨c,W⟩|⟨c,a,i,q,l,f,P⟩
 ·have d:fz t n r=false:=by unfold fz;rw[c]
  have o:(bE t n r y true).rw=ay t.rw n (some {r with sa:=6,res:=y,here:=true}):=by unfold bE;simp only;rw[c]
  refine(AW y u p v g (.inl m) c).mono ?_;rintro e w' ⟨rfl,j,k⟩;refine⟨?_,?_,k⟩
  ·unfold vs
   rw[d,yb (by decide)];rfl
  ·rw[o]
   exact j _ rfl rfl rfl rfl rfl
 ·have x:dI n=a:=by rw[l,lB]
  have E:=A.row a q f
  have S:cI t.rw (aF a i)=true:=by
   rw[<-l];unfold cI;rw[g];simp[m]
  have T:=AS P S
  have V:dZ t.rw a q.kn<=q.kn:=by
   unfold dZ;exact lT (List.length_filter_le _ _) (by simp)
  have C:1<=q.opn/\q.opn<=100:=by
   have:=E.opn;have:=E.kn;omega
  have B:a=⟨n.job,a.M⟩:=by rw[l];rfl
  have D:n.M=a.M++ [UInt8.ofNat (i+1)]:=by rw[l];rfl
  have o:(bE t n r y true).rw=ay (ay t.rw n (some {r with sa:=6,res:=y,here:=true})) a (some (fc q)):=by
   unfold bE;simp only;rw[c,x,f]
  have H:fz t n r=decide (q.sa=3/\q.opn-1=0):=jo c (by rw[x];exact f)
  by_cases d:q.sa=3/\q.opn-1=0
  ·refine(AX y a a.M (UInt8.ofNat (i+1)) q B D u p v g (.inl m) c f C ⟨by omega,d.1⟩).mono ?_
   rintro e w' ⟨rfl,j,k⟩;refine⟨?_,?_,k⟩
   ·unfold vs
    rw[H,yg d,yf rfl,x]
   ·rw[o]
    exact j _ _ rfl rfl rfl rfl rfl rfl (by unfold fc;rw[yf d]) rfl rfl rfl
  ·have R:0<q.opn-1\/q.sa≠3:=by
    by_cases e:q.sa=3
    ·have:¬q.opn-1=0:=λf=>d ⟨e,f⟩
     exact .inl (by omega)
    ·exact .inr e
   refine(CK y a a.M (UInt8.ofNat (i+1)) q B D u p v g (.inl m) c f C R).mono ?_;rintro e w' ⟨rfl,j,k⟩;refine⟨?_,?_,k⟩
   ·unfold vs
    rw[H,yd d,yb (by decide)];rfl
   ·rw[o]
    exact j _ _ rfl rfl rfl rfl rfl rfl (by unfold fc;rw[yb d]) rfl rfl rfl
end
end Go.Proofs.YtmdocplknceilaaGreat
