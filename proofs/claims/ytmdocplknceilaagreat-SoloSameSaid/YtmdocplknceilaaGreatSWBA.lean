import Derived.Test.YtmdocplknceilaaGreatSWAY
import Derived.WideKeyEntry
set_option linter.all false
set_option maxRecDepth 100000
set_option maxHeartbeats 4000000
namespace Go.Proofs.YtmdocplknceilaaGreat
section
open Go.RowKit Go.Maps
theorem wP{P:Program}{w:World}{t k d:TypeId}{b:Nat}{a:Array MapEntry}{c:Nat}(f:Keyed P k)(C:P.underlying t=some (.map k d)){z:Value}(a0:∀u:World,(zeroValue d).run P u=.ok z u)(e:w.heap[b]?=some (.map a c))
 (W:MapKept.Stamped a c) (R:∀x∈a.toList,∃l,keyOf P k x.key=some l) {key:Value} {a1:Lit} (g:keyOf P k key=some a1):
 ∃(v0:Value) (st:Nat) (K:Array MapEntry) (F:Nat),(Instr.mapEntry t (.map (some b)) key).run P w=.ok (.tuple #[v0,.int .i64 (st:Int)]) (ChangeMaps.setBlock w b (.map K F))/\
  ∀(A:World) (val:Value),A.heap[b]?=some (.map K F)->∃H c',(Instr.entryStore t (.map (some b)) (.int .i64 (st:Int)) val).run P A=.ok () (ChangeMaps.setBlock A b (.map H c'))/\(Instr.mapUpdate t (.map (some b)) key val).run P w=.ok () (ChangeMaps.setBlock w b (.map H c')):=by
 obtain⟨a2,Q,_⟩:=W
 rcases f.find w g a.toList R with⟨o,p⟩|⟨j,D,o,p,B⟩
 ·have S:(a.push ⟨key,z,c⟩).toList[a.size]?=some ⟨key,z,c⟩:=by simp
  have T:((a.push ⟨key,z,c⟩).toList.map (·.born)).Nodup:=by
   rw[Yb,yS];refine zy.2 ⟨Q,by simp,λx Y y Z a3=>?_⟩;obtain⟨u,X,rfl⟩:=yL.1 Y;have:=a2 u X;simp at Z;omega
  have m:=WideElems.findIdx_born T S;rw[<-WideElems.findIdx_arr] at m;refine⟨z,c,a.push ⟨key,z,c⟩,c+1,?_,λA val v=>⟨(a.push ⟨key,z,c⟩).modify a.size (λd=>{d with val:=val}),c+1,?_,?_⟩⟩
  ·simp[Instr.mapEntry,run_underlying C,MapKept.run_getObj_map e,f.check w false g,o,a0,MapKept.run_setObj_map _ e,Result.andThen,ChangeMaps.setBlock,goInt]
  ·simp at m
   simp[Instr.entryStore,MapKept.run_getObj_map v,asInt,asIntOf,m,MapKept.run_setObj_map _ v,Result.andThen,ChangeMaps.setBlock]
  ·have E:(a.push ⟨key,z,c⟩).modify a.size (λd=>{d with val:=val})=a.push ⟨key,val,c⟩:=by
    apply Array.ext';rw[zu,Yb,Yb,<-Array.length_toList,WideElems.modify_last]
   rw[E];simp[Instr.mapUpdate,run_underlying C,MapKept.run_getObj_map e,f.check w false g,o,MapKept.run_setObj_map _ e,Result.andThen,ChangeMaps.setBlock]
 ·have N:a[j]?=some D:=by simpa using p
  have V:a.modify j (λd=>{d with key:=key})=a:=by
   apply Array.ext';rw[zu];apply zt;intro i;rw[zG]
   by_cases q:j=i
   ·subst q
    rw[p,<-B];simp
   ·simp[q]
  have m:=WideElems.findIdx_born Q p;rw[<-WideElems.findIdx_arr] at m;refine⟨D.val,D.born,a,c,?_,λA val v=>⟨a.modify j (λd=>{d with val:=val}),c,?_,?_⟩⟩
  ·simp[Instr.mapEntry,run_underlying C,MapKept.run_getObj_map e,f.check w false g,o,N,B,f.stays w g,V,MapKept.run_setObj_map _ e,Result.andThen,ChangeMaps.setBlock,goInt]
  ·simp[Instr.entryStore,MapKept.run_getObj_map v,asInt,asIntOf,m,MapKept.run_setObj_map _ v,Result.andThen,ChangeMaps.setBlock]
  ·have E:a.modify j (λd=>{d with key:=key,val:=val})=a.modify j (λd=>{d with val:=val}):=by
    apply Array.ext';rw[zu,zu];apply zt;intro i;rw[zG,zG]
    by_cases q:j=i
    ·subst q
     rw[p,<-B];simp
    ·simp[q]
   rw[<-E];simp[Instr.mapUpdate,run_underlying C,MapKept.run_getObj_map e,f.check w false g,o,N,B,f.stays w g,MapKept.run_setObj_map _ e,Result.andThen,ChangeMaps.setBlock]
theorem ms{w:World}{b:Nat}{d:Array MapEntry}{c:Nat}{a:Obj}(e:w.heap[b]?=some (.map d c)):aa (λx=>x=b) w (ChangeMaps.setBlock w b a):=
 ⟨rfl,rfl,rfl,by simp[ChangeMaps.setBlock],λk _ f=>ChangeMaps.heap_setBlock_other e a f⟩
theorem aL.entry{P:Program}{w:World}{t k j:TypeId}{b cnt:Nat}{g:Value->Option Value}{key z:Value}{H:Lit}(l:aL P w k b g cnt)(i:Keyed P k)(p:P.underlying t=some (.map k j))(E:∀u:World,(zeroValue j).run P u=.ok z u)(o:keyOf P k key=some H)(D:cnt<maxLen):
 ∃(v0:Value) (st:Nat) (e:World),(Instr.mapEntry t (.map (some b)) key).run P w=.ok (.tuple #[v0,.int .i64 (st:Int)]) e/\aa (λx=>x=b) w e/\
  ∀(a:World) (val:Value),a.heap[b]?=e.heap[b]?->∃f,(Instr.entryStore t (.map (some b)) (.int .i64 (st:Int)) val).run P a=.ok () f/\aL P f k b (gR g key (some val)) (if (g key).isSome then cnt else cnt+1)/\aa (λx=>x=b) a f:=by
 obtain⟨K,⟨R,Q,c,F,W⟩,V⟩:=id l;obtain⟨v0,st,T,N,q,y⟩:=wP i p E c F.stamped F.keys o;refine⟨v0,st,_,q,ms c,λa val d=>?_⟩;rw[ChangeMaps.heap_setBlock_same c _] at d;obtain⟨S,c',A,B⟩:=y a val d;obtain⟨w',m,C,_⟩:=l.put i p o D (v:=val);rw[B] at m
 cases m
 exact⟨_,A,C.heap (by rw[ChangeMaps.heap_setBlock_same d _,ChangeMaps.heap_setBlock_same c _]),ms d⟩
theorem km{nms:List Nm}(d:nms.Nodup){n:Nm}{v:Nat}(b:nms[v]?=some n):gY nms n=some (.int .i64 (v:Int))/\eo nms n=(v,nms):=by
 have a:∃v:Nat,nms[v]?=some n:=⟨v,b⟩
 have hv:Classical.choose a=v:=by
  have c:=Classical.choose_spec a;have e:=(gS c)
  have f:=(gS b)
  obtain⟨j,g⟩:=e;obtain⟨k,i⟩:=f;exact(List.getElem_inj d).1 (g.trans i.symm)
 unfold gY eo;rw[dif_pos a,dif_pos a,hv];exact⟨rfl,rfl⟩
theorem lV{nms:List Nm}{n:Nm}(a:¬ ∃v:Nat,nms[v]?=some n):gY nms n=none/\eo nms n=(nms.length,nms++ [n]):=by
 unfold gY eo;rw[dif_neg a,dif_neg a];exact⟨rfl,rfl⟩
theorem wW{nms:List Nm}{n:Nm}(e:nms.Nodup)(g:¬ ∃v:Nat,nms[v]?=some n):gY (nms++ [n])=au (gY nms) n (some (.int .i64 (nms.length:Int))):=by
 have f:(nms++ [n]).Nodup:=zy.2 ⟨e,by simp,λa i b j c=>by
  rw[yw.1 j] at c;subst c;exact g (yF i)⟩
 funext m
 by_cases c:m=n
 ·subst c
  rw[ax];exact(km f (by simp)).1
 ·rw[af _ _ c]
  by_cases d:∃v:Nat,nms[v]?=some m
  ·obtain⟨v,hv⟩:=d
   rw[(km e hv).1];exact(km f (by rw[yi (gS hv).1];exact hv)).1
  ·rw[(lV d).1]
   refine(lV λ⟨v,hv⟩=>?_).1
   rcases fM hv with hv|⟨_,hv⟩
   ·exact d ⟨v,hv⟩
   ·exact c hv
theorem uJ(nms:List Nm)(n:Nm):gi (nms++ [n])=λy=>if y=(nms.length:Int) then some (aP n) else gi nms y:=by
 funext y;unfold gi
 by_cases a:y<0
 ·rw[yf a,yb (by omega),yf a]
 ·rw[yb a]
  obtain⟨k,rfl⟩ :∃k:Nat,y=(k:Int):=⟨y.toNat,by omega⟩
  rw[yo]
  by_cases b:k=nms.length
  ·subst b
   rw[yf rfl];simp
  ·rw[yb (λc=>b (Int.ofNat_inj.1 c)),yb a]
   by_cases d:k<nms.length
   ·rw[yi d]
   ·rw[zv (by simp;omega),zv (by omega)]
section
variable {w w':World}{tag tag':Nat->Nat}{L L':cj}{s s':PS}{n:Nm}
theorem aQ.thW(b:aR w tag L s){k tp:Nat}{th:Th}(e:L.tps[k]?=some tp)(c:s.ths[k]?=some th):tag tp=15/\∃d av fv,L.dp[k]?=some d/\ae w tp 131 (dj av th.kn d th.cur fv)/\(th.act=none->av=.pointer none)/\
 (∀j i,th.act=some (j,i)->∃pl p,L.ps[j]?=some pl/\pl[i]?=some p/\av=ptr p)/\(th.run=true->fv=ptr (L.fp th.cur))/\(th.run=false->fv=.pointer none):=by
 obtain⟨l,d,av,fv,a,f,g⟩:=(b.p15 (by decide)).2.1 k th c;rw[e] at a
 cases a
 exact⟨f,d,av,fv,g⟩
theorem CQ(av a:Value)(kd kd' d:Nat)(cur:Nm)(fv:Value):((dj av kd d cur fv).setIfInBounds 0 a).setIfInBounds 1 (.int .i64 (kd':Int))=dj a kd' d cur fv:=by simp[dj]
theorem aQ.setAct{k tp d kd':Nat}{th:Th}{a:Nat×Nat}{pl:List Nat}{p:Nat}(g:aR w tag L s)(x:L.tps[k]?=some tp)(t:s.ths[k]?=some th){av fv:Value}(q:L.dp[k]?=some d)(o:ae w tp 131 (dj av th.kn d th.cur fv))(u:th.run=true->fv=ptr (L.fp th.cur))(v:th.run=false->fv=.pointer none)
 (l:L.ps[a.1]?=some pl) (m:pl[a.2]?=some p):aR ((w.setCell ⟨tp,0,none⟩ (.pointer (some ⟨p,0,none⟩))).setCell ⟨tp,1,none⟩ (.int .i64 (kd':Int))) tag L {s with ths:=s.ths.set k {th with act:=some a,kn:=kd'}}/\aa (λb=>b=tp) w ((w.setCell ⟨tp,0,none⟩ (.pointer (some ⟨p,0,none⟩))).setCell ⟨tp,1,none⟩ (.int .i64 (kd':Int))):=by
 have e:=(o.s_ 0 (.pointer (some ⟨p,0,none⟩))).s_ 1 (.int .i64 (kd':Int));rw[CQ] at e;have f:aa (λb=>b=tp) w ((w.setCell ⟨tp,0,none⟩ (.pointer (some ⟨p,0,none⟩))).setCell ⟨tp,1,none⟩ (.int .i64 (kd':Int))):=(ag _ tp 0 _).trans (ag _ tp 1 _);exact⟨aQ.thread (k:=k) (th:=th) {th with act:=some a,kn:=kd'} g t x q f e (λc=>by cases c) (λj i c=>by cases c;exact⟨pl,p,l,m,rfl⟩) u v,f⟩
theorem qH(ai:aR w tag L s)(cs:eP s.C s.ds){k tp:Nat}{th:Th}{x:aM}(dk:L.tps[k]?=some tp)(d2:s.ths[k]?=some th)(bp:cR n)(d5:s.nms.Nodup)(dl:s.ds[k]?=some x)(d0:own x.acts x.on=none)(d7:s.nms.length<=1000000000):
 Calls Tryz.prog 93 #[ptr L.pb,ptr tp,aP n] w λe w'=>e=.returned (.tuple #[])/\cl w w' tag L s (dS s k n) 1:=by
 obtain⟨l,an⟩:=eX (w.alloc (.cells #[.int .u64 n.job,.string (sB n.M)] 58));have bz:ac w l:=by rw[an];exact(aa.refl _ w).alloc _
 obtain⟨R,aw⟩:=eX w.heap.size;have b5:ae l R 58 #[.int .u64 n.job,.string (sB n.M)]:=by rw[an,aw];exact bN
 have al:=ai.U bz;have d8:=(al.p1 (by decide)).2;obtain⟨ei,d3⟩:=bp.key
 have T:∀q,(Instr.lookup 117 (.map (some L.nb)) (.agg #[.int .u64 n.job,.string (sB n.M)]) true).run Tryz.prog (l.drewN q)=.ok (.tuple #[(gY s.nms n).getD (.int .i64 0),.bool (gY s.nms n).isSome]) (l.drewN q):=λq=>by
  have:=(((al.p9 (by decide)).2).heap (w':=l.drewN q) rfl).look2 (t:=117) gg Tryz.underlying117 (z:=.int .i64 0) (by kernel_rfl) d3;rw[gM] at this;exact this
 have b8:=d8.I 7;simp[bi] at b8;obtain⟨dp,dr⟩:=b5.gE2;have cf:=hD an.symm;have dz:=hD aw;have cb:=hD bp;have eg:=hD ai;have c8:=hD al;have dv:=hD b5;have cd:=hD bz;have g:=hD (aI dk (aI d2 (aI dl d0)));have c9:=hD cs;have Z:=hD (aI d5 d7);have d1:tag R=0:=fL ai.tlt (by rw[aw];exact lR);have e0:=hD d1;unfold ptr aP ew;clear ai bp bz an aw b5 al d8 d3 dk d2 dl d0 cs d5 d7 d1;go_enter Tryz.func93,Tryz.ntmps93;go_upto_region 1 with fail;rw[cf.O,<-dz.O];clear cf
 by_cases ar:∃v:Nat,s.nms[v]?=some n
 ·obtain⟨v,hv⟩:=ar
  obtain⟨X,a7⟩:=km Z.O.1 hv;rw[X] at T;change ∀q,(Instr.lookup 117 (.map (some L.nb)) (.agg #[.int .u64 n.job,.string (sB n.M)]) true).run Tryz.prog (l.drewN q)=.ok (.tuple #[.int .i64 (v:Int),.bool true]) (l.drewN q) at T;have Q:=hD (aI hv a7);clear hv X a7
  go_quiet (fail)
  obtain⟨c,H⟩:=eX (l.drewN nq);rw[<-H];have D:ac l c:=by rw[H];exact oR.drewN nq
  have j:=hD (c8.O.U D);have b3:Hd (aK w c tag tag):=hD (aK.U (cd.O.trans D));clear T b8 dp dr H D;obtain⟨a4,d,av,fv,A,K,bv,bx,a5,a6⟩:=j.O.thW g.O.1 g.O.2.1;obtain⟨b9,pl,E,o,c5,c6,c7,a9⟩:=(j.O.p3 (by decide)).dq k x g.O.2.2.1;have bn:d=b9:=yz (A.symm.trans E);subst bn;have b2:=hD (oZ (j.O.p3 (by decide)) c9.O g.O.2.2.1 A o g.O.2.2.2 (v:Int));have a1:=K.I 2;simp[dj,ptr] at a1;have b1:=hD K;have f:=hD (aI a4 (aI A (aI o (aI a9 (aI a5 a6)))));clear a4 A K bv bx a5 a6 E o c5 c6 c7 a9;go_upto_region 5 with fail
  go_wp2_with (go_at_call 142;refine b2.O.mono ?_;rintro e W8 ⟨rfl,a8,eb,a2⟩;have P:=hD a8;have ba:=hD a2;clear a8 a2 a1;have m:=P.O.J b1.O (λe=>by rw[f.O.1] at e;exact absurd e (by decide));have b6:=m.I 0;have b7:=m.I 1;have e7:=m.fz 0;have e8:=m.fz 1;have b0:=hD m;simp[dj] at b6 b7;clear m)
  go_end0
  have bf:=ba.O (et x (v:Int)) rfl rfl rfl;have bb:=(j.O.part (i:=3) P.O).fill3 (bf.mo (jH j.O.tlt (by decide))) (ib.snoc f.O.2.2.1 _);have S:(L.ps.set k (pl++ [c.heap.size]))[k]?=some (pl++ [c.heap.size]):=bg (gS f.O.2.2.1).1;obtain⟨bc,c0⟩:=bb.setAct (kd':=1) (a:=(k,x.acts.length)) (p:=c.heap.size) g.O.1 g.O.2.1 f.O.2.1 b0.O f.O.2.2.2.2.1 f.O.2.2.2.2.2 S (by show(pl++ [_])[x.acts.length]?=_;rw[<-f.O.2.2.2.1];simp);have br:ct tag c W8 3 tp=15:=by rw[bu j.O.tlt tp (by rw[f.O.1];decide)];exact f.O.1
  refine⟨rfl,_,({L with ps:=L.ps.set k (pl++ [c.heap.size])}:cj),?_,(b3.O.trans (aK.part j.O.tlt (by decide) P.O)).trans (aK.same (i:=15) (by decide) (c0.mono λb e=>by rw[e];exact br)),⟨rfl,rfl,rfl,rfl,by show L.n<=L.n+1;omega,by show(L.fn:Int)<=L.fn+1;omega,(by simp only[dS,Q.O.2];omega),[],by simp[dS],by simp⟩⟩
  have bo:dS s k n= {{s with C:=s.C,ds:=s.ds.set k (et x (v:Int))} with ths:=s.ths.set k {th with act:=some (k,x.acts.length),kn:=1}}:=by
   unfold dS;rw[PS.dq_eq g.O.2.2.1,PS.th_eq g.O.2.1,Q.O.2]
  rw[bo];exact bc
 ·obtain⟨X,a7⟩:=lV ar
  rw[X] at T;change ∀q,(Instr.lookup 117 (.map (some L.nb)) (.agg #[.int .u64 n.job,.string (sB n.M)]) true).run Tryz.prog (l.drewN q)=.ok (.tuple #[.int .i64 0,.bool false]) (l.drewN q) at T;have Q:=hD (aI a7 (aI ar X));clear ar X a7
  go_quiet (fail)
  obtain⟨c,H⟩:=eX (l.drewN nq);rw[<-H];have D:ac l c:=by rw[H];exact oR.drewN nq
  have am:=c8.O.U D;have j:=hD am;have e3:=hD (cd.O.trans D);have cB:=D.J dv.O nF;have dw:=hD cB;have V:=(am.p1 (by decide)).2;clear T b8 dp dr H D;have cm:=V.I 8;simp[bi] at cm;have S:=λef=>(am.p10 (by decide)).2.1.len (t:=118) Tryz.underlying118 ef
  obtain⟨N,bq⟩:=eX s.nms.length;rw[<-bq] at S;have a0:=hD bq;clear am V cB bq;go_upto_region 4 with fail;clear S cm;have d6:(Lit.int .i64 (N:Int)).wf=true:=by rw[a0.O];have:=Z.O.2;unfold Lit.wf;rw[zm,zR,zR];exact⟨Ya (by decide) (zD _),Ya (Int.ofNat_le.2 this) (by decide)⟩
  obtain⟨ej,d4⟩:=cb.O.key;obtain⟨v0,st,ck,cn,c1,cq⟩:=(((j.O.p9 (by decide)).2).heap (w':=c.drew) rfl).entry (t:=117) gg Tryz.underlying117 (z:=.int .i64 0) (λu=>by kernel_rfl) d4 (by have:=Z.O.2;unfold maxLen;omega);obtain⟨e4,e5,dn,c2⟩:=cq ck (.int .i64 (N:Int)) rfl;have bt:=(j.O.p9 (by decide)).1;have aE:=(j.O.p10 (by decide)).1;have a3:L.mm≠L.nb:=λe=>by rw[e,bt] at aE;exact absurd aE (by decide)
  obtain⟨v1,ee,b4,e6,c3,cr⟩:=(((((j.O.p10 (by decide)).2.1).heap (w':=c.drew) rfl).only c1 a3).only c2 a3).entry (t:=118) rV Tryz.underlying118 (z:=.agg #[.int .u64 0,.string ⟨#[]⟩]) (λu=>by kernel_rfl) (Maps.keyOf_int_mk Tryz.underlying2 d6) (by have:=Z.O.2;unfold maxLen;omega);obtain⟨y,cp,dm,c4⟩:=cr b4 (aP n) rfl;have cg:Hd (aa (λb=>b=L.nb\/b=L.mm) c ck):=hD ((aa.drew (aa.refl _ c)).trans (c1.mono λ_ e=>.inl e));have ch:Hd (aa (λb=>b=L.nb\/b=L.mm) c e4):=hD (cg.O.trans (c2.mono λ_ e=>.inl e));have ci:Hd (aa (λb=>b=L.nb\/b=L.mm) c b4):=hD (ch.O.trans (c3.mono λ_ e=>.inr e));have ad:Hd (aa (λb=>b=L.nb\/b=L.mm) c y):=hD (ci.O.trans (c4.mono λ_ e=>.inr e));have V:=(j.O.p1 (by decide))
  have B:Hd (∀W,aa (λb=>b=L.nb\/b=L.mm) c W->aa (λb=>b=L.nb\/b=L.mm) c W/\W.cell? ⟨L.pb,7,none⟩=some (.map (some L.nb))/\W.cell? ⟨L.pb,8,none⟩=some (.map (some L.mm))/\W.cell? ⟨R,0,none⟩=some (.int .u64 n.job)/\W.cell? ⟨R,1,none⟩=some (.string (sB n.M))):=hD λW bk=>by
   have E:=bk.J V.2 (λe=>by rcases e with e|e<;>have:=V.1<;>rw[e] at this<;>simp_all);have o:=bk.J dw.O (λe=>by rcases e with e|e<;>have:=e0.O<;>rw[e] at this<;>simp_all);exact⟨bk,E.I 7,E.I 8,o.I 0,o.I 1⟩
  have e9:=B.O c oR
  have e2:Hd (aL Tryz.prog y 58 L.nb (dP (gY (s.nms++ [n]))) (s.nms++ [n]).length):=hD (by
   have q:=(dn.only c3 (λe=>a3 e.symm)).only c4 (λe=>a3 e.symm);rw[lv,gM,Q.O.2.2,a0.O] at q;rw[wW Z.O.1 Q.O.2.1]
   simpa using q)
  have e1:Hd (aL Tryz.prog y 2 L.mm (gI .i64 (gi (s.nms++ [n]))) (s.nms++ [n]).length):=hD (by
   have q:=dm;rw[vX,lP] at q;have ea:gi s.nms (N:Int)=none:=by unfold gi;rw[yb (by omega),a0.O];simp
   rw[ea] at q;rw[uJ,<-a0.O]
   simpa using q)
  change (Instr.mapEntry 117 (.map (some L.nb)) (.agg #[.int .u64 n.job,.string (sB n.M)])).run Tryz.prog c.drew=_ at cn;change (Instr.entryStore 118 (.map (some L.mm)) (.int .i64 (ee:Int)) (.agg #[.int .u64 n.job,.string (sB n.M)])).run Tryz.prog b4=_ at cp;clear d4 c1 cq dn c2 c3 cr dm c4 V a3 d6;have ab:=hD (aI bt aE);clear bt aE
  go_region_held3 (λW=>aa (λb=>b=L.nb\/b=L.mm) c W/\W.cell? ⟨L.pb,7,none⟩=some (.map (some L.nb))/\W.cell? ⟨L.pb,8,none⟩=some (.map (some L.mm))/\W.cell? ⟨R,0,none⟩=some (.int .u64 n.job)/\W.cell? ⟨R,1,none⟩=some (.string (sB n.M)))
   (first|with_reducible exact B.O _ cg.O|with_reducible exact B.O _ ch.O|with_reducible exact B.O _ ci.O|with_reducible exact B.O _ ad.O|with_reducible exact B.O _ (aa.drew oR)|with_reducible exact B.O _ oR|fail) (fail)
  clear e9 cn e5 e6 cp
  have az:∀b,b=L.nb\/b=L.mm->tag b∈[9,10]/\tag b≠0:=λb e=>by
   rcases e with e|e
   ·rw[e,ab.O.1];decide
   ·rw[e,ab.O.2];decide
  have cv:=j.O.keepL (tag':=tag) (Y:=[9,10]) ad.O (λb e=>(az b e).1) (λ_ _=>rfl) (λb bm=>lL (j.O.tlt b bm) ad.O.size);have F:=hD (cv.fillN ⟨ab.O.1,e2.O⟩ ⟨ab.O.2,e1.O,λec az=>(yH.1 az).elim ((j.O.p10 (by decide)).2.2 ec) (λe=>by rw[yw.1 e];exact cb.O)⟩);have b3:Hd (aK w y tag tag):=hD ((aK.U e3.O).trans ⟨ad.O.mono λb e=>(az b e).2,λ_ _=>rfl,λb bm=>.inl bm⟩);have ce:Hd (eo s.nms n=(N,s.nms++ [n])):=hD (by rw[a0.O];exact Q.O.1);clear cv B;obtain⟨a4,d,av,fv,A,K,bv,bx,a5,a6⟩:=F.O.thW g.O.1 g.O.2.1;obtain⟨b9,pl,E,o,c5,c6,c7,a9⟩:=(F.O.p3 (by decide)).dq k x g.O.2.2.1;have bn:d=b9:=yz (A.symm.trans E);subst bn;have b2:=hD (oZ (F.O.p3 (by decide)) c9.O g.O.2.2.1 A o g.O.2.2.2 (N:Int));have a1:=K.I 2;simp[dj,ptr] at a1;have b1:=hD K;have f:=hD (aI a4 (aI A (aI o (aI a9 (aI a5 a6)))));clear a4 A K bv bx a5 a6 E o c5 c6 c7 a9;go_upto_region 5 with fail
  go_wp2_with (go_at_call 142;refine b2.O.mono ?_;rintro e W8 ⟨rfl,a8,eb,a2⟩;have P:=hD a8;have ba:=hD a2;clear a8 a2 a1;have m:=P.O.J b1.O (λe=>by rw[f.O.1] at e;exact absurd e (by decide));have b6:=m.I 0;have b7:=m.I 1;have e7:=m.fz 0;have e8:=m.fz 1;have b0:=hD m;simp[dj] at b6 b7;clear m)
  go_end0
  have bf:=ba.O (et x (N:Int)) rfl rfl rfl;have bb:=(F.O.part (i:=3) P.O).fill3 (bf.mo (jH F.O.tlt (by decide))) (ib.snoc f.O.2.2.1 _);have S:(L.ps.set k (pl++ [y.heap.size]))[k]?=some (pl++ [y.heap.size]):=bg (gS f.O.2.2.1).1;obtain⟨bc,c0⟩:=bb.setAct (kd':=1) (a:=(k,x.acts.length)) (p:=y.heap.size) g.O.1 g.O.2.1 f.O.2.1 b0.O f.O.2.2.2.2.1 f.O.2.2.2.2.2 S (by show(pl++ [_])[x.acts.length]?=_;rw[<-f.O.2.2.2.1];simp);have br:ct tag y W8 3 tp=15:=by rw[bu F.O.tlt tp (by rw[f.O.1];decide)];exact f.O.1
  refine⟨rfl,_,({L with ps:=L.ps.set k (pl++ [y.heap.size])}:cj),?_,(b3.O.trans (aK.part F.O.tlt (by decide) P.O)).trans (aK.same (i:=15) (by decide) (c0.mono λb e=>by rw[e];exact br)),⟨rfl,rfl,rfl,rfl,by show L.n<=L.n+1;omega,by show(L.fn:Int)<=L.fn+1;omega,(by simp only[dS,ce.O,yk,zo,List.length_nil];omega),[],by simp[dS],by simp⟩⟩
  have bo:dS s k n= {{({s with nms:=s.nms++ [n]}:PS) with C:=s.C,ds:=s.ds.set k (et x (N:Int))} with ths:=s.ths.set k {th with act:=some (k,x.acts.length),kn:=1}}:=by
   unfold dS;rw[PS.dq_eq g.O.2.2.1,PS.th_eq g.O.2.1,ce.O]
  rw[bo];exact bc
end
def gJ(G:cG):Prop:=∀j p x,G j=some (p,x)->lH p/\eh p x/\(Lit.int .u64 j).wf=true
theorem tL{p:List aj}(d:jw p):∀(l:List UInt8) (t u:aA),eh p t->bw p t l=some u->eh p u
 | [],t,u,b,a=>by cases a;exact b
 |c :: l,t,u,b,a=>by
  unfold bw at a;split at a
  ·cases a
  ·cases hk:(aW p t)[c.toNat-1]? with
   |none=>rw[hk] at a;cases a
   |some k=>
    rw[hk] at a;exact tL d l k u ((nB d b).2 k (yh hk)) a
section
variable {G:cG}{w w':World}{tag tag':Nat->Nat}{L L':cj}{s s':PS}{n:Nm}{ex:Nm->Prop}{r:aC}
theorem aF.row_ok(a:aF G s ex)(i:gJ G)(d:s.T.rw n=some r):∃p x,G n.job=some (p,x)/\bw p x n.M=some r.tk/\uf p s.T n r/\s.progs n.job=some p/\s.prog n.job=p/\lH p/\eh p r.tk/\cR n:=by
 obtain⟨p,x,b,c,g⟩:=(a.t.row n r d).node;obtain⟨f,k,l⟩:=i _ _ _ b;have e:=tL f.ok _ _ _ k c;have j:=a.t.M d;exact⟨p,x,b,c,g,a.progs _ _ _ b,a.prog b,f,e,l,by rw[<-j];exact e.pth⟩
theorem cl.U(b:aR w tag L s)(a:ac w w'):cl w w' tag L s s 0:=⟨tag,L,b.U a,aK.U a,LK.refl _ _⟩
theorem cl.then{c:World}{b:PS}{d a:Int}(g:aK w w' tag tag')(k:LK L L' s s' d)(f:cl w' c tag' L' s' b a):cl w c tag L s b (d+a):=by
 obtain⟨m,e,i,j,l⟩:=f;exact⟨m,e,i,g.trans j,k.trans l⟩
theorem cl.mo{d a:Int}(c:cl w w' tag L s s' d)(i:d<=a):cl w w' tag L s s' a:=by
 obtain⟨j,b,e,f,g⟩:=c;exact⟨j,b,e,f,g.mo i⟩
theorem pD(d:aR w tag L s)(j:aF G s ex)(v:gJ G){k tp:Nat}{th:Th}(E:L.tps[k]?=some tp)(B:s.ths[k]?=some th)(g:cR n)(A:L.fn<=1000000000):
 Calls Tryz.prog 84 #[ptr L.pb,ptr tp,aP n] w λa w'=>a=.returned (.tuple #[])/\cl w w' tag L s (dB s k n) 1:=by
 by_cases c:∃r,s.T.rw n=some r/\(r.sa=1\/r.sa=4)
 ·obtain⟨r,b,c⟩:=c
  obtain⟨p,x,F,H,i,q,K,t,u,N⟩:=j.row_ok v b;refine uP d E B g b c q t u (λa=>(i.idle (.inl a)).2) (λa=>?_) (λz l P C D y=>?_) A
  ·obtain⟨f,e,_⟩:=i.runs (.inr (.inr a))
   rw[e];simp
  ·obtain⟨_,_,_,f,_,_,_,_,e,_⟩:=j.current C D
   rw[y,z] at e
   cases e
 ·have m:∀r,s.T.rw n=some r->r.sa≠1/\r.sa≠4:=λr b=>⟨λa=>c ⟨r,b,.inl a⟩,λa=>c ⟨r,b,.inr a⟩⟩
  refine(xi d tp g m).mono ?_;rintro a w' ⟨rfl,o⟩;rw[ui d k tp g m];exact⟨rfl,(cl.U d o).mo (by decide)⟩
theorem jB(a:aR w tag L s):Calls Tryz.prog 44 #[ptr L.pb] w λc w'=>c=.returned (.bool true)/\w=w':=by
 have b:=(a.p1 (by decide)).2.I 4;simp[bi,ptr] at b;unfold ptr;clear a;go_enter Tryz.func44,Tryz.ntmps44;go_wp2_with fail;go_ret;exact⟨rfl,rfl⟩
end
structure jN(L:cj)(s:PS):Prop where
 dq:∀x∈s.ds,x.P<=10000/\x.N<=20000
 c:s.C.length<=45000
 n:L.n+3<=4611686018427387904
 fn:L.fn<=1000000000
 nm:s.nms.length<=1000000000
 dn:L.dn.length<=1000000
 th:s.ths.length<=1000
def Dy(w w':World)(tag:Nat->Nat)(L:cj)(s:PS)(k draw:Nat)(e:Ending):Prop:=∃b s',e=.returned (.bool b)/\cL s k draw s'/\cl w w' tag L s s' 4
theorem C5(a:ay):cnt a<=1/\0<=cnt a:=by
 unfold cnt;split<;>omega
theorem BH(av:Value)(kd d:Nat)(cur:Nm)(fv:Value):((dj av kd d cur fv).setIfInBounds 0 (.pointer none)).setIfInBounds 1 (.int .i64 0)=dj (.pointer none) 0 d cur fv:=by simp[dj]
theorem vj(b k:Nat){a:Nat}(d:1<a)(e:a<=1000)(g:k<a)(f:b<4294967296):
 wrap64 (1+wrap64 ((b:Int) % ((a:Int)-1)))=((1+b % (a-1):Nat):Int)/\wrap64 ((k:Int)+((1+b % (a-1):Nat):Int))=((k+(1+b % (a-1)):Nat):Int)/\((k+(1+b % (a-1)):Nat):Int) % (a:Int)=(((k+(1+b % (a-1))) % a:Nat):Int):=by
 have i:b % (a-1)<a-1:=Yj _ (by omega);have c:((b:Int) % ((a:Int)-1))=((b % (a-1):Nat):Int):=by rw[Int.natCast_emod];congr 1;omega
 rw[c];generalize b % (a-1)=z at*;refine⟨?_,?_,(Int.natCast_emod _ _).symm⟩<;>unfold wrap64<;>omega
theorem BB(b k:Nat){a:Nat}(e:1<a)(f:k<a):(k+(1+b % (a-1))) % a<a/\(k+(1+b % (a-1))) % a≠k:=by
 have g:b % (a-1)<a-1:=Yj _ (by omega);generalize b % (a-1)=z at*;refine⟨Yj _ (by omega),λc=>?_⟩
 by_cases d:k+(1+z)<a
 ·rw[Nat.mod_eq_of_lt d] at c;omega
 ·rw[Nat.mod_eq_sub_mod (by omega),Nat.mod_eq_of_lt (by omega)] at c;omega
section
variable {G:cG}{w w':World}{tag tag':Nat->Nat}{L L':cj}{s s':PS}{n:Nm}{r:aC}
theorem xg(cr:aR w tag L s)(Z:aF G s (λ_=>False))(gr:gJ G)(c0:jN L s){k tp j i:Nat}{th:Th}(fm:L.tps[k]?=some tp)(an:s.ths[k]?=some th)(c2:th.act=some (j,i))(Q:Nat)(h0:Q<4294967296):
 Calls Tryz.prog 45 #[ptr L.pb,ptr tp,.int .i64 (k:Int),.int .u32 (Q:Int)] w λe w'=>Dy w w' tag L s k Q e:=by
 obtain⟨x,a,aE,c3,b9,i4⟩:=(Z.th k th an).act j i c2;obtain⟨L',ws',dw,eg,kk,_⟩:=wO Z.many aE c3 b9;obtain⟨y,dr⟩:=eX (⟨x.d,ws',x.acts.set i (pstep x.d s.C a).a,x.on,L',x.own+(((pstep x.d s.C a).C.length:Int)-s.C.length),x.P,x.c0⟩ :aM);rw[<-dr] at dw;obtain⟨S,c6⟩:=eX ({s with C:=(pstep x.d s.C a).C,ds:=s.ds.set j y}:PS);have er:mY s j i x a S:=⟨aE,c3,L',ws',by rw[c6,dr],by rw[c6];exact dw,eg,kk⟩
 obtain⟨hd,d,av,fv,hj,ft,is,hk,hl,hm⟩:=cr.thW fm an;obtain⟨pl,p,e0,ho,rfl⟩:=hk j i c2;have fr:=c0.dq x (yh aE);have c5:=Z.kinds x (yh aE) a (yh c3);have g5:=hD (uq (cr.p3 (by decide)) Z.many aE c3 b9 e0 ho fr.1 fr.2 c0.c c0.n);have bv:=ft.I 0;simp[dj,ptr] at bv;have hb:S.th k=th:=by rw[c6];exact PS.th_eq an
 have fj:s.th k=th:=PS.th_eq an
 have fk:∀s',(if (pstep x.d s.C a).what=0 then s'=S else s'=ij S k Q (pstep x.d s.C a).what (pstep x.d s.C a).val)->cL s k Q s':=λs' e=>by
  unfold cL;rw[fj,c2];exact⟨x,a,S,er,e⟩
 have f2:=λe=>Z.dend an c2 er e
 have hg:(pstep x.d s.C a).what=2->(pstep x.d s.C a).val∈x.L:=λe=>by
  rcases eg with c|⟨_,c|c|c|c|c⟩
  ·omega
  ·omega
  ·rw[c.2.2];simp
  ·omega
  ·rw[c.2.2];simp
  ·omega
 have fo:=λe=>Z.vals x (yh aE) _ (hg e)
 obtain⟨wh,fq⟩:=eX ((pstep x.d s.C a).what);obtain⟨val,hh⟩ :∃v,v=(pstep x.d s.C a).val:=⟨_,rfl⟩
 rw[<-fq,<-hh] at g5 fk fo;rw[<-fq] at f2;have ec:Hd (y.d=x.d/\y.acts=x.acts.set i (pstep x.d s.C a).a/\y.on=x.on):=hD (by rw[dr];exact⟨rfl,rfl,rfl⟩);have cm:=hD cr;have bq:=hD c6;have g4:=hD fk;have hH:=hD f2;have hS:=hD fo;have a7:=hD (aI fm (aI an (aI hb fj)));have hJ:=hD ft;have a1:=hD (aI hd (aI hj (aI hl hm)));have ck:=hD c0;have g2:=hD gr;have hP:=hD Z;have hG:=hD h0;unfold ptr;clear cr Z gr c0 fm an c2 h0 aE c3 b9 i4 dw eg kk dr c6 er hd hj ft is hk hl hm e0 ho fr c5 hb fj fk f2 hg fo fq hh;go_enter Tryz.func45,Tryz.ntmps45
 go_upto_region 2 with(go_at_call 83;refine g5.O.mono ?_;rintro e b6 ⟨rfl,c9,ht,gf⟩)
 have k8:=hD c9;have gq:=gf y ec.O.1 ec.O.2.1 ec.O.2.2
 have em:aR b6 (ct tag w b6 3) {L with n:=L.n+cnt a,v:=ht} S:=by
  have:=(cm.O.part (i:=3) c9).fill3 (ps':=L.ps) (gq.mo (jH cm.O.tlt (by decide))) (ib.refl _);rw[bq.O];exact this
 obtain⟨u,dk⟩ :∃t,t=ct tag w b6 3:=⟨_,rfl⟩
 rw[<-dk] at em;have e7:=hD em;have g8:Hd (aK w b6 tag u):=hD (by rw[dk];exact aK.part cm.O.tlt (by decide) c9);have b2:Hd (u tp=15):=hD (by rw[dk,bu cm.O.tlt tp (by rw[a1.O.1];decide)];exact a1.O.1);have ga:=c9.J hJ.O (λe=>by rw[a1.O.1] at e;exact absurd e (by decide));have bp:=hD ga;obtain⟨f,cv⟩:=eX ({L with n:=L.n+cnt a,v:=ht}:cj)
 have g6:Hd (LK L f s S 1):=hD (by
  rw[cv,bq.O];have:=(C5 a).1;exact⟨rfl,rfl,rfl,rfl,by show L.n+cnt a<=L.n+1;omega,by show(L.fn:Int)<=L.fn+1;omega,by show(s.nms.length:Int)<=s.nms.length+1;omega,[],by simp,by simp⟩)
 rw[<-cv] at e7;have E:Hd (f.pb=L.pb/\f.tps=L.tps/\f.dp=L.dp/\f.fp=L.fp/\f.fn=L.fn):=hD (by rw[cv];exact⟨rfl,rfl,rfl,rfl,rfl⟩);clear c9 gf gq em dk bv ga cv
 by_cases c7:wh=0
 ·subst c7
  go_wp2_with fail;go_ret;exact⟨true,S,rfl,g4.O S (by simp),u,f,e7.O,g8.O,g6.O.mo (by decide)⟩
 ·obtain⟨cd,dn⟩:=eX ((wh:Int):Int)
  rw[<-dn];have ab:(cd==0)=false:=bF (by rw[dn];exact λe=>c7 (Int.ofNat_eq_zero.1 e));obtain⟨kd,c5⟩:=eX ((th.kn:Int):Int);have bv:=bp.O.I 0;have bx:=bp.O.I 1;simp[dj,ptr,<-c5] at bv bx;have ej:=bp.O.fz 0;have ek:=bp.O.fz 1;go_upto_region 7 with fail;obtain⟨m,cB⟩:=eX ((b6.setCell ⟨tp,0,none⟩ (.pointer none)).setCell ⟨tp,1,none⟩ (.int .i64 0));rw[<-cB];obtain⟨l,az⟩:=eX (S.setTh k {th with act:=none,kn:=0})
  have ef:ae m tp 131 (dj (.pointer none) 0 d th.cur fv):=by
   have:=(bp.O.s_ 0 (.pointer none)).s_ 1 (.int .i64 0);rw[BH,<-cB] at this;exact this
  have fw:aa (λb=>b=tp) b6 m:=by rw[cB];exact(ag _ tp 0 _).trans (ag _ tp 1 _)
  have f3:S.ths[k]?=some th:=by rw[bq.O];exact a7.O.2.1
  have gp:aR m u f l:=by
   rw[az];exact aQ.thread (k:=k) (th:=th) (av:=.pointer none) (fv:=fv) {th with act:=none,kn:=0} e7.O f3 (by rw[E.O.2.1];exact a7.O.1) (by rw[E.O.2.2.1];exact a1.O.2.1) fw ef (λ_=>rfl) (λj i e=>by cases e) (by rw[E.O.2.2.2.1];exact a1.O.2.2.1) a1.O.2.2.2
  have D:=hD gp;have b5:Hd (aK w m tag u):=hD (g8.O.trans (aK.same (i:=15) (by decide) (fw.mono λb e=>by rw[e];exact b2.O)))
  have b3:Hd (LK L f s l 1):=hD (by
   rw[az];obtain⟨X,T,ce,cf,cg,ai,ch,ci⟩:=g6.O;exact⟨X,T,ce,cf,cg,ai,ch,ci⟩)
  have h3:l.ths[k]?=some {th with act:=none,kn:=0}:=by rw[az];exact bg (gS f3).1
  obtain⟨es,f8⟩:=hH.O c7;rw[<-az] at es f8;have ea:=hD es;have a6:=hD (aI h3 (aI f8 dn));have hQ:=hD az;have hL:=hD c5;have gt:∀s',s'=ij S k Q wh val->cL s k Q s':=λs' e=>g4.O s' (by rw[yb c7];exact e)
  have b0:Hd (∀s',s'=(if wh=1 then l else if wh=2 then dB l k (s.nms.getD val.toNat fS) else if th.kn=2/\s.queue≠[] then dB {l with queue:=s.queue.tail} k (s.queue.headD fS) else if th.kn=2/\1<s.ths.length then ix l k ((k+(1+Q % (s.ths.length-1))) % s.ths.length) else l)->cL s k Q s'):=hD λs' e=>by
   refine gt s' ?_;rw[e,az];unfold ij;simp only;rw[a7.O.2.2.1,bq.O]
  have jj:=hD c7;have hE:=hD ef;clear cB az ef fw f3 gp h3 es f8 gt bv bx ej ek ab dn c5
  by_cases ab:wh=1
  ·subst ab
   rw[show cd=1 from a6.O.2.2];go_wp2_with fail;go_ret;exact⟨true,l,rfl,b0.O l rfl,u,f,D.O,b5.O,b3.O.mo (by decide)⟩
  ·have ic:(cd==1)=false:=bF (by rw[a6.O.2.2];exact λe=>ab (by omega))
   have R:=(D.O.p1 (by decide)).2;rw[E.O.1] at R;have K:l.nms=s.nms/\l.queue=s.queue/\l.ths.length=s.ths.length/\l.ds.length=s.ds.length:=by rw[hQ.O,bq.O];simp[PS.setTh]
   by_cases bk:wh=2
   ·subst bk
    obtain⟨v1,v2⟩:=hS.O rfl;obtain⟨bo,rfl⟩ :∃bo:Nat,val=(bo:Int):=⟨val.toNat,by omega⟩
    obtain⟨B,d5⟩ :∃B,s.nms[bo]?=some B:=⟨s.nms[bo]'(by omega),gG _⟩
    have h5:cR B:=(D.O.p10 (by decide)).2.2 B (by rw[K.1];exact yh d5)
    have hi:(Lit.int .i64 (bo:Int)).wf=true:=by
     have:=ck.O.nm;unfold Lit.wf;rw[zm,zR,zR];exact⟨Ya (by decide) (zD _),Ya (b:=1000000000) (by omega) (by decide)⟩
    have d4:=((D.O.p10 (by decide)).2.1).look (t:=118) rV Tryz.underlying118 (z:=.agg #[.int .u64 0,.string ⟨#[]⟩]) (by kernel_rfl) (Maps.keyOf_int_mk Tryz.underlying2 hi);rw[lP] at d4
    have h7:gi l.nms (bo:Int)=some (aP B):=by
     unfold gi;rw[yb (by omega),yo,K.1,d5];rfl
    rw[h7] at d4;change _=Result.ok (Value.agg #[.int .u64 B.job,.string (sB B.M)]) m at d4;obtain⟨dw,f6⟩:=eX f.mm;rw[<-f6] at d4;have hW:=R.I 8;simp[bi,<-f6] at hW;have al:=hD (pD (n:=B) D.O ea.O g2.O (by rw[E.O.2.1];exact a7.O.1) a6.O.1 h5 (by rw[E.O.2.2.2.2];exact ck.O.fn));rw[E.O.1] at al;unfold ptr aP ew at al;have hM:=hD d5;rw[show cd=2 from a6.O.2.2];clear R K v1 v2 d5 h5 hi h7 f6 ic
    go_wp2_with (go_at_call 84;refine al.O.mono ?_;rintro e Y ⟨rfl,g0⟩)
    go_ret;refine⟨true,_,rfl,b0.O _ ?_,(cl.then b5.O b3.O g0).mo (by decide)⟩;rw[yb (by decide)];simp only[yR,yo];rw[jQ hM.O]
   ·have k3:(cd==2)=false:=bF (by rw[a6.O.2.2];exact λe=>bk (by omega))
    by_cases V:th.kn=2
    ·have f4:kd=2:=by rw[hL.O,V];rfl
     have d3:(th.kn:Int)=2:=by rw[V];rfl
     rw[d3];obtain⟨dm,aw⟩:=D.O.p5 (by decide);obtain⟨hB,ge,a3⟩:=fT aw;obtain⟨F,bc⟩:=eX f.tps.length;rw[<-bc] at a3;have a4:F=s.ths.length:=by rw[bc,(D.O.p15 (by decide)).1,K.2.2.1]
     by_cases a9:s.queue= []
     ·obtain⟨ji,k0,fd⟩ :∃A c,f.qv=.slice A 0 c:=by
       rcases(D.O.p6 (by decide)).1 with⟨e,_⟩|⟨g,o,c,cur,e,_⟩
       ·exact⟨none,0,e⟩
       ·exact⟨_,c,by rw[e,K.2.1,a9];rfl⟩
      have bx:=R.I 1;have a8:=R.I 6;simp[bi,fd] at a8;have gc:=R.I 3;simp[bi,a3] at gc
      by_cases bb:1<F
      ·have h6:(1:Int)<(F:Int):=by omega
       have h8:F<=1000:=by rw[a4];exact ck.O.th
       have f5:k<F:=by rw[a4];exact(gS a7.O.2.1).1
       obtain⟨e2,e3,e4⟩:=vj Q k bb h8 f5 hG.O;obtain⟨c8,i8⟩:=eX (F-1);have hu:wrap64 ((F:Int)-1)=(c8:Int):=by unfold wrap64;omega
       have j2:(c8:Int) % 4294967296=(c8:Int):=by omega
       have j3:¬(c8:Int)=0:=by omega
       have j4:¬(F:Int)=0:=by omega
       have j5:¬F=0:=by omega
       have j1:=(cQ _).trans hu;rw[show((F:Int)-1)=(c8:Int) by omega] at e2;obtain⟨bs,c4⟩:=eX (1+Q % (F-1));obtain⟨q,d8⟩:=eX ((k+bs) % F);rw[<-c4] at e2 e3;rw[<-c4,<-d8] at e4;have ar:q<F/\q≠k:=by rw[d8,c4];exact BB Q k bb f5
       obtain⟨a0,dl⟩ :∃t,f.tps[q]?=some t:=⟨f.tps[q]'(by rw[<-bc];exact ar.1),gG _⟩
       obtain⟨k9,he⟩ :∃t,l.ths[q]?=some t:=⟨l.ths[q]'(by rw[K.2.2.1,<-a4];exact ar.1),gG _⟩
       obtain⟨iw,cp,jn,k1,e1,hr,_⟩:=D.O.thW dl he;have hf:a0≠tp:=λe=>ar.2 ((D.O.p15 (by decide)).2.2 q k a0 dl (by rw[E.O.2.1,e];exact a7.O.1))
       obtain⟨H,i0⟩ :∃H,hB=some ⟨H,0,none⟩:=by
        rcases cT aw with⟨_,e⟩|⟨g,c,e,_⟩
        ·omega
        ·rw[a3] at e
         exact⟨g,by injection e⟩
       subst i0
       have f1:m.cell? ⟨H,q,none⟩=some (.pointer (some ⟨a0,0,none⟩)):=by
        rw[a3] at aw;have:=World.ownsRow.cells aw (g:=H) rfl q (ptr a0) (by rw[yJ,dl];rfl);rw[bE,yq] at this;exact this
       have gu:u H=5:=dm H (by rw[a3];rfl);obtain⟨a5,dq⟩ :∃x,l.ds[q]?=some x:=⟨l.ds[q]'(by rw[K.2.2.2,hP.O.nlen,<-a4];exact ar.1),gG _⟩
       obtain⟨hX,cb,X,T,_,_,_,ai⟩:=(D.O.p3 (by decide)).dq q a5 dq;have i2:cp=hX:=yz (e1.symm.trans X);subst i2;have hR:Hd (∀W,ac m W->Calls Tryz.prog 85 #[.pointer (some ⟨cp,0,none⟩)] W λe w'=>e=.returned (.tuple #[.pointer (some ⟨W.heap.size,0,none⟩),.int .i64 0])/\aa (λb=>u b=3) W w'/\W.heap.size<w'.heap.size/\∀y:aM,y.d=a5.d->y.acts=a5.acts++ [co 2 0]->y.on=a5.on->DW w' (λb=>u b=3\/W.heap.size<=b/\b<w'.heap.size) f.m f.n f.v l.C (l.ds.set q y) f.dp (f.ps.set q (cb++ [W.heap.size]))):=hD λW ba=>ta ((D.O.U ba).p3 (by decide)) ea.O.many dq e1 T
       have ha:u L.pb=1:=by have:=(D.O.p1 (by decide)).1;rw[E.O.1] at this;exact this
       have c1:Hd (∀W,aa (λb=>u b=3\/b=tp) m W->aa (λb=>u b=3\/b=tp) m W/\W.cell? ⟨L.pb,3,none⟩=some (.slice (some ⟨H,0,none⟩) F ge)/\W.cell? ⟨H,q,none⟩=some (.pointer (some ⟨a0,0,none⟩))/\W.cell? ⟨a0,2,none⟩=some (.pointer (some ⟨cp,0,none⟩))):=hD λW ba=>by
        have am:¬(u L.pb=3\/L.pb=tp):=λe=>e.elim (λe=>by omega) (λe=>by rw[e,b2.O] at ha;omega)
        have cq:¬(u H=3\/H=tp):=λe=>e.elim (λe=>by omega) (λe=>by rw[e,b2.O] at gu;omega)
        have b8:¬(u a0=3\/a0=tp):=λe=>e.elim (λe=>by omega) hf
        exact⟨ba,by rw[(ba.J R am).I 3];simp[bi,a3],(ba.I (p:=⟨H,q,none⟩) (block_lt_of_cell f1) cq).trans f1,by rw[(ba.J hr b8).I 2];simp[dj,ptr]⟩
       obtain⟨kb,h4⟩:=eX (k+bs);rw[<-h4] at e3 e4;have iz:=(cQ _).trans e3;obtain⟨dv,fs⟩:=jP ar.1;have j0:(kb:Int).tmod (F:Int)=(q:Int):=by rw[<-e4];exact Int.tmod_eq_emod_of_nonneg (zD _)
       have Z:=c1.O m oR;have N:=hD (aI dq (aI e1 (aI T (aI ai ar))));have br:=hD (aI K a4);have cn:=hD (aI d8 c4);have b1:=hD (aI V (aI a9 bb));clear R K dm aw a3 fd bb V bx bc a4 f4 d3 dq e1 hr X T ai ar a9 d8 c4 h4 h8 f5 dl he iw hf f1 gu ha i8;go_upto_region 16 with fail;rw[e2];clear e2 h6 a8 gc hu j2 j3 j1
       go_region_held3 (λW=>aa (λb=>u b=3\/b=tp) m W/\W.cell? ⟨L.pb,3,none⟩=some (.slice (some ⟨H,0,none⟩) F ge)/\W.cell? ⟨H,q,none⟩=some (.pointer (some ⟨a0,0,none⟩))/\W.cell? ⟨a0,2,none⟩=some (.pointer (some ⟨cp,0,none⟩)))
        (first|with_reducible exact c1.O _ g9.O|with_reducible exact c1.O _ (aa.setCell g9.O (Or.inl (Or.inr rfl)) _)|with_reducible exact c1.O _ (aa.drew oR)|with_reducible exact c1.O _ oR|fail)
        (first
         |(go_at_call 85;refine(hR.O m.drew (aa.drew oR)).mono ?_;rintro e Y ⟨rfl,fx,k5,gm⟩;have g9:Hd (aa (λb=>u b=3\/b=tp) m Y):=hD (aa.trans (aa.drew oR) (aa.mono fx λb e=>Or.inl e));have b4:=hD fx;have hC:=hD gm;clear fx gm;have b7:=b4.O.J (ae.drew hE.O) (λe=>by rw[b2.O] at e;exact absurd e (by decide));have hv:=b7.I 0;have hy:=b7.I 1;have ej:=b7.fz 0;have ek:=b7.fz 1;have e9:=hD b7;simp[dj] at hv hy;clear b7)
         |fail)
       clear Z hv hy ej ek;have e5:(Y.setCell ⟨tp,0,none⟩ (.pointer (some ⟨m.heap.size,0,none⟩))).cell? ⟨tp,1,none⟩=some (.int .i64 0):=by rw[(e9.O.s_ 0 _).I 1];simp[dj]
       have g1:=(e9.O.s_ 0 (.pointer (some ⟨m.heap.size,0,none⟩))).fz 1;clear e3 iz e4 j0 j4 j5 dv fs;go_wp2_with fail;go_ret;have cs:=D.O.U (aa.drew (aa.refl (λ_=>False) m));have i1:=hC.O (kx a5) rfl rfl rfl;have bz:=(cs.part (i:=3) b4.O).fill3 (i1.mo (jH cs.tlt (by decide))) (ib.snoc N.O.2.2.1 _);obtain⟨hs,fl⟩ :∃t,t=ct u m.drew Y 3:=⟨_,rfl⟩
       rw[<-fl] at bz;have ie:hs tp=15:=by rw[fl,bu cs.tlt tp (by rw[b2.O];decide)];exact b2.O
       obtain⟨hZ,it⟩:=bz.setAct (kd':=3) (a:=(q,a5.acts.length)) (p:=m.heap.size) (pl:=cb++ [m.heap.size]) (by show f.tps[k]?=some tp;rw[E.O.2.1];exact a7.O.1) a6.O.1 (by show f.dp[k]?=_;rw[E.O.2.2.1];exact a1.O.2.1) e9.O (by rw[show({f with n:=f.n,v:=f.v,ps:=f.ps.set q (cb++ [m.drew.heap.size])}:cj).fp=L.fp from E.O.2.2.2.1];exact a1.O.2.2.1) a1.O.2.2.2 (bg (gS N.O.2.2.1).1) (by show(cb++ [_])[a5.acts.length]?=_;rw[<-N.O.2.2.2.1];simp)
       have i3:ix l k q= {{l with C:=l.C,ds:=l.ds.set q (kx a5)} with ths:=l.ths.set k {act:=some (q,a5.acts.length),kn:=3,cur:=th.cur,run:=th.run}}:=by
        unfold ix;rw[PS.dq_eq N.O.1,PS.th_eq a6.O.1]
       refine⟨true,_,rfl,b0.O (ix l k q) (by rw[yb ab,yb bk,yb (λe=>e.2 b1.O.2.1),yf ⟨b1.O.1,by rw[<-br.O.2];exact b1.O.2.2⟩,cn.O.1,cn.O.2,br.O.2]),hs,({f with ps:=f.ps.set q (cb++ [m.heap.size])}:cj),by rw[i3];exact hZ,?_,?_⟩
       ·refine((b5.O.trans (aK.U (aa.drew (aa.refl _ m)))).trans ?_).trans (aK.same (i:=15) (by decide) (it.mono λb e=>by rw[e];exact ie))
        rw[fl];exact aK.part cs.tlt (by decide) b4.O
       ·obtain⟨X,T,ce,cf,cg,ai,ch,ci⟩:=b3.O
        exact LK.mo (d:=1) ⟨X,T,ce,cf,cg,ai,ch,ci⟩ (by decide)
      ·have h6:¬(1:Int)<(F:Int):=by omega
       have eb:=hD (aI a4 (aI a9 bb));have b1:=hD V;clear R K dm aw a3 a9 fd bb V bx bc a4 f4 d3;go_wp2_with fail;go_ret;exact⟨false,l,rfl,b0.O l (by rw[yb ab,yb bk,yb (λe=>e.2 eb.O.2.1),yb (λe=>eb.O.2.2 (by rw[eb.O.1];exact e.2))]),u,f,D.O,b5.O,b3.O.mo (by decide)⟩
     ·obtain⟨B,ad,fb⟩ :∃B ad,s.queue=B :: ad:=by
       cases hc:s.queue with
       |nil=>exact absurd hc a9
       |cons B ad=>exact⟨B,ad,rfl⟩
      obtain⟨f9,fa⟩:=D.O.p6 (by decide);rw[K.2.1,fb] at f9 fa;obtain⟨g,o,c,cur,am,cq,b8,a2,gn,go,ei⟩:=f9.resolve_left (λe=>by cases e.2);obtain⟨hn,f7⟩:=eX ad.length;rw[zo,<-f7] at am a2;obtain⟨X,T⟩:=ei 0 B rfl;have iv:m.cell? ⟨g,o,none⟩=some (.int .u64 B.job):=by rw[b8.I];simpa using X
      have e0:m.cell? ⟨g,o+1,none⟩=some (.string (sB B.M)):=by rw[b8.I];simpa using T
      have a8:=R.I 6;simp[bi,am] at a8;have dv:(0:Int)<((hn+1:Nat):Int):=by omega
      obtain⟨bm,d6⟩:=eX (hn+1);rw[<-d6] at am a2 dv;have hV:m.cell? ⟨L.pb,6,none⟩=some (.slice (some ⟨g,o,none⟩) bm c):=by rw[d6];exact a8
      have N:=hD (aI fb (aI f7 (aI am (aI d6 (aI cq (aI a2 (aI gn (aI go ei))))))));have cn:=hD b8;have g3:=hD fa;have hO:=hD R;have b1:=hD (aI V a9);have br:=hD K;clear R K dm aw a3 a9 V bc a4 f4 d3 fb f9 fa am cq b8 a2 gn go ei f7 X T a8 d6;go_upto_region 12 with fail;obtain⟨Y,d0⟩:=eX (m.alloc (.cells #[.int .u64 B.job,.string (sB B.M)] 58));obtain⟨el,d2⟩:=eX m.heap.size;rw[<-d0,<-d2];have dz:ac m Y:=by rw[d0];exact oR.alloc _
      have gb:ae Y el 58 #[.int .u64 B.job,.string (sB B.M)]:=by rw[d0,d2];exact bN
      have bz:=D.O.U dz;have d7:=dz.J hO.O nF;clear iv e0 hV dv;have a8:Y.cell? ⟨L.pb,6,none⟩=some (.slice (some ⟨g,o,none⟩) bm c):=by rw[d7.I 6];simp[bi,N.O.2.2.1]
      have hY:=d7.fz 6;have fs:¬((bm:Nat):Int)<1:=by rw[N.O.2.2.2.1];omega
      have ih:¬((c:Nat):Int)<((bm:Nat):Int):=by have:=N.O.2.2.2.2.2.1;omega
      have ii:1<=bm:=by rw[N.O.2.2.2.1];omega
      have il:=N.O.2.2.2.2.2.1;have hF:=hD gb;have e8:=hD bz;have hN:=hD d7;have b4:=hD dz;have hI:Hd (m.heap.size<=el):=hD (by rw[d2];exact lR);clear d0 d2 gb bz d7 dz;go_upto_region 13 with fail;obtain⟨qv',ff⟩ :∃v,v=Value.slice (if c=1 then some ⟨g,o,none⟩ else some ⟨g,o+2,none⟩) (bm-1) (c-1):=⟨_,rfl⟩
      rw[<-ff];obtain⟨bt,d1⟩:=eX (Y.setCell ⟨L.pb,6,none⟩ qv');rw[<-d1];have bn:aa (λb=>b=L.pb) Y bt:=by rw[d1];exact ag _ _ _ _
      have h9:ae bt L.pb 123 (bi {f with qv:=qv'}):=by rw[d1];have:=hN.O.s_ 6 qv';simpa[bi] using this
      have bf:u L.pb=1:=by have:=(e8.O.p1 (by decide)).1;rw[E.O.1] at this;exact this
      obtain⟨e5,g1,j6,hz,e6,j7,j8,jd,hA⟩:=N.O
      have gs:pP bt (λb=>u b=6) qv' ad:=by
       refine .inr ⟨g,if c=1 then o else o+2,c-1,cur,?_,e6,bn.J (b4.O.J cn.O nF) (λe=>by rw[e,bf] at e6;exact absurd e6 (by decide)),by omega,by split<;>omega,by omega,λi n h1=>?_⟩
       ·rw[ff,hz,g1]
        congr 1
        split<;>rfl
       ·have k2:=(gS h1).1
        rw[yb (by omega)];have:=hA (i+1) n (by simpa using h1);rw[show o+2+i*2=o+(i+1)*2 by omega];exact this
      have eq:aR bt u {f with qv:=qv'} {l with queue:=ad}:=((e8.O.kp (i:=1) (tag':=u) bn (λb e=>by rw[e];exact bf) (λ_ _=>rfl) (λb H=>lL (e8.O.tlt b H) bn.size)).mono (λj _ h2=>by simp at h2;rw[h2];simp)).fillQ ⟨by rw[show({f with qv:=qv'}:cj).pb=L.pb from E.O.1];exact bf,by rw[show({f with qv:=qv'}:cj).pb=L.pb from E.O.1];exact h9⟩ ⟨gs,λn i6=>g3.O n (yV _ i6)⟩;have eL:=ea.O.unqueue (by rw[br.O.2.1,e5];simp);rw[br.O.2.1,e5] at eL;have hT:Hd (aK w bt tag u):=hD (((b5.O.trans (aK.U b4.O)).trans (aK.same (i:=1) (by decide) (bn.mono λb e=>by rw[e];exact bf))))
      have g7:Hd (LK L {f with qv:=qv'} s {l with queue:=ad} 1):=hD (by
       obtain⟨X,T,ce,cf,cg,ai,ch,ci⟩:=b3.O;exact⟨X,T,ce,cf,cg,ai,ch,ci⟩)
      obtain⟨ee,f0⟩:=eX ({f with qv:=qv'}:cj);rw[<-f0] at eq g7;have a2:ee.pb=L.pb/\ee.tps=L.tps/\ee.fn=L.fn:=by rw[f0];exact⟨E.O.1,E.O.2.1,E.O.2.2.2.2⟩
      have al:=hD (pD (n:=B) eq eL g2.O (by rw[a2.2.1];exact a7.O.1) a6.O.1 (g3.O B zh) (by rw[a2.2.2];exact ck.O.fn));rw[a2.1] at al;unfold ptr aP ew at al;have gx:=bn.J hF.O (λe=>by have b9:u el=0:=fL D.O.tlt hI.O;rw[e,bf] at b9;exact absurd b9 (by decide));obtain⟨k6,k7⟩:=gx.gE2;clear a8 hY fs ih ii il ff d1 bn h9 bf e5 g1 j6 hz e6 j7 j8 jd hA gs eq eL gx f0 a2
      go_wp2_with (go_at_call 84;refine al.O.mono ?_;rintro e jl ⟨rfl,g0⟩)
      go_ret;refine⟨true,_,rfl,b0.O _ ?_,(cl.then hT.O g7.O g0).mo (by decide)⟩;rw[yb ab,yb bk,yf b1.O,N.O.1];rfl
    ·have k4:((th.kn:Int)==2)=false:=bF (λe=>V (by omega))
     go_wp2_with fail;go_ret;exact⟨false,l,rfl,b0.O l (by rw[yb ab,yb bk,yb (λe=>V e.1),yb (λe=>V e.1)]),u,f,D.O,b5.O,b3.O.mo (by decide)⟩
end
noncomputable def kw(s:PS)(n m:Nm)(r:aC)(t:aA):PS:=
 {s with T:={s.T with rw:=au (au s.T.rw n (some {r with opn:=r.opn+1,kn:=r.kn+1})) m (some ⟨t,1,0,⟨0,0⟩,true,0,false⟩),ks:=s.T.ks++ [m]}}
section
variable {G:cG}{w w':World}{tag tag':Nat->Nat}{L L':cj}{s s':PS}{n:Nm}{r:aC}
theorem uQ(al:aR w tag L s)(c1:eP s.C s.ds){k tp:Nat}{th:Th}{x:aM}(b8:L.tps[k]?=some tp)(b1:s.ths[k]?=some th)(cg:s.T.rw th.cur=some r)(bx:r.sa=2)(cd:0<=r.opn/\r.opn<=100)(cb:cR th.cur)(t:aA)(A:Option Addr)(V:Nat)(c:UInt8)(ce:t.M=th.cur.M++ [c])
 (a4:cR ⟨th.cur.job,t.M⟩) (b7:s.T.rw ⟨th.cur.job,t.M⟩=none) (c4:(s.T.ks.length:Int)<L.most) (K:L.most<=1000000) (ba:Nat->Prop) (c0:aU w ba A t.args) (c7:t.args.length<=100000) (b4:s.known ⟨th.cur.job,t.M⟩=none) (aE:s.away ⟨th.cur.job,t.M⟩=false)
 (c8:s.nms.Nodup) (ck:s.ds[k]?=some x) (c5:own x.acts x.on=none) (c9:s.nms.length<=1000000000):
 Calls Tryz.prog 87 #[ptr L.pb,ptr tp,.agg (db t A V)] w λb w'=>b=.returned (.tuple #[])/\cl w w' tag L s (dS (kw s th.cur ⟨th.cur.job,t.M⟩ r t) k ⟨th.cur.job,t.M⟩) 1:=by
 obtain⟨g,u⟩:=eX (⟨th.cur.job,t.M⟩ :Nm);rw[<-u] at a4 b7 b4 aE;rw[<-u];obtain⟨kp,a3⟩:=eX (sB t.M);obtain⟨cn,b3⟩:=eX t.fn;obtain⟨cm,b2⟩:=eX t.args.length;obtain⟨cp,b5⟩:=eX ((t.fuel:Int):Int);obtain⟨E,Z⟩:=eX (w.alloc (.cells #[.string kp,.int .i64 cn,.slice A cm V,.int .i64 cp] 30));have a6:ac w E:=by rw[Z];exact(aa.refl _ w).alloc _
 obtain⟨H,a1⟩:=eX w.heap.size;have ai:ae E H 30 #[.string kp,.int .i64 cn,.slice A cm V,.int .i64 cp]:=by rw[Z,a1];exact bN
 obtain⟨bo,ar⟩:=eX E.drew;have v:ac E bo:=by rw[ar];exact oR.drew
 have X:=al.U a6;have Y:=X.U v;obtain⟨ch,d,av,fv,dv,a5,dw,dz,e0,e1⟩:=X.thW b8 b1;have cf:=(X.p1 (by decide)).2;have bv:=cf.I 4;simp[bi,ptr] at bv;have cv:=a5.I 3;have cB:=a5.I 4;simp[dj] at cv cB;obtain⟨e5,e6,e7,e8⟩:=ai.gE4;have R:=hD (Ch t A V c ce ba (Y.tagB (i:=2) (by decide)) (Y.p2 (by decide)) cb cg bx cd (by rw[<-u];exact a4) (by rw[<-u];exact b7) c4 K ((c0.kp a6 nG).kp v nG) c7);unfold db aP ew at R;rw[<-u,<-a3,<-b3,<-b2,<-b5] at R;have bn:=hD Z.symm;have dm:=hD ar.symm;have d5:=hD a1;have Q:=hD Y;have dl:=hD (a6.trans v);have bf:=hD (v.J ai nF);have d6:=hD (v.J a5 nF);have ad:=hD ch;have S:=hD (aI b8 (aI b1 (aI ck c5)));have dk:=hD c1;have D:=hD (aI a4 (aI c8 (aI c9 u)));have bm:=hD (aI b4 aE);have d8:=hD a3;have c6:tag H=0:=fL al.tlt (by rw[a1];exact lR);have bk:=hD c6;unfold ptr db;rw[<-a3,<-b3,<-b2,<-b5];clear al c1 b8 b1 cg bx cd cb ce a4 b7 c4 K c0 c7 b4 aE c8 ck c5 c9 a3 b3 b2 b5 Z a6 a1 ai ar v X Y ch dv a5 dw dz e0 e1 cf c6;go_enter Tryz.func87,Tryz.ntmps87;go_upto_region 1 with fail;rw[bn.O,<-d5.O];clear bn
 go_still_tail 9,(by kernel_rfl)
 change wpList _ _ _ _ _ E.drew;rw[dm.O];clear bv cv cB e5 e6 e7 e8
 go_upto_region 2 with(go_at_call 141;refine R.O.mono ?_;rintro b e ⟨rfl,⟨q,e3,e4,cs⟩,P⟩)
 have c2:=cs ⟨t,1,0,⟨0,0⟩,true,0,false⟩ {r with opn:=r.opn+1,kn:=r.kn+1} rfl rfl rfl rfl rfl rfl rfl rfl rfl rfl;have c3:=Q.O.part (i:=2) P;obtain⟨y,N⟩ :∃t,t=ct tag bo e 2:=⟨_,rfl⟩
 have am:=c3.fill2 (T':=(kw s th.cur g r t).T) (by
  have:=c2.mo (jH Q.O.tlt (i:=2) (by decide));show bD e _ _ _ _ (au (au s.T.rw th.cur _) g _) (s.T.ks++ [g]).length _;rw[yk];exact this) rfl
 rw[<-N] at am;have dn:Hd (aK w e tag y):=hD ((aK.U dl.O).trans (by rw[N];exact aK.part Q.O.tlt (by decide) P));have ci:y tp=15:=by rw[N,bu Q.O.tlt tp (by rw[ad.O];decide)];exact ad.O
 have bq:=P.J d6.O (λb=>by rw[ad.O] at b;exact absurd b (by decide));have br:=P.J bf.O (λb=>by rw[bk.O] at b;exact absurd b (by decide));have d2:=hD bq;have d4:=hD br;have d0:=hD am
 have e9:=hD (aI ci (show y H=0 by
  rw[N];unfold ct;rw[yb (λb=>absurd bf.O.lt (zC.2 b.1))];exact bk.O))
 have a:Hd (∀W,ac e W->ac e W/\W.cell? ⟨tp,3,none⟩=some (.int .u64 th.cur.job)/\W.cell? ⟨H,0,none⟩=some (.string kp)):=hD λW m=>⟨m,by rw[(m.J d2.O nF).I 3];simp[dj],(m.J d4.O nF).I 0⟩
 have an:=a.O e oR;clear e3 e4 cs P c2 c3 N am ci bq br R
 go_region_held3 (λW=>ac e W/\W.cell? ⟨tp,3,none⟩=some (.int .u64 th.cur.job)/\W.cell? ⟨H,0,none⟩=some (.string kp))
  (first|with_reducible exact a.O _ (aa.drew oR)|with_reducible exact a.O _ oR|with_reducible exact a.O _ (aa.alloc oR _)|with_reducible exact a.O _ (aa.alloc (aa.drew oR) _)|with_reducible exact a.O _ (aa.drew (aa.alloc oR _))|fail) (fail)
 clear an a;have b6:aP g=.agg #[.int .u64 th.cur.job,.string kp]:=by rw[D.O.2.2.2,d8.O];rfl
 have B:=hD b6;obtain⟨F,b0⟩:=eX e.heap.size;obtain⟨f,a0⟩:=eX ((e.alloc (.cells #[.int .u64 th.cur.job,.string kp] 58)).drew);rw[<-a0,<-b0];have b9:ac e f:=by rw[a0];exact(oR.alloc _).drew
 have bc:Hd (ae f F 58 #[.int .u64 th.cur.job,.string kp]):=hD (by rw[a0,b0];exact bN.drew);have bb:=hD (d0.O.U b9);have dp:Hd (aK w f tag y):=hD (dn.O.trans (aK.U b9));obtain⟨eb,a2⟩:=D.O.1.key;rw[b6] at a2
 have a:Hd (∀W,ac f W->ac f W/\W.cell? ⟨L.pb,10,none⟩=some (.map (some L.kb))/\W.cell? ⟨F,0,none⟩=some (.int .u64 th.cur.job)/\W.cell? ⟨F,1,none⟩=some (.string kp)/\(Instr.lookup 120 (.map (some L.kb)) (.agg #[.int .u64 th.cur.job,.string kp]) true).run Tryz.prog W=.ok (.tuple #[.agg #[.int .i64 0,.int .i64 0],.bool false]) W):=hD λW m=>by
  have l:=bb.O.U m;have K:=m.J bc.O nF;have o:=(l.p12 (by decide)).2.look2 (t:=120) gg Tryz.underlying120 (z:=.agg #[.int .i64 0,.int .i64 0]) (by kernel_rfl) a2;rw[<-B.O,gM] at o;rw[<-B.O,o];refine⟨m,by have:=(l.p1 (by decide)).2.I 10;simpa[bi] using this,K.I 0,K.I 1,?_⟩;show Result.ok (Value.tuple #[((s.known g).map eT).getD _,.bool ((s.known g).map eT).isSome]) W=_;rw[bm.O.1];rfl
 have an:=a.O f oR;have d7:=hD a2;clear a0 b0 b9 a2 b6;go_upto_region 3 with fail
 go_region_held3 (λW=>ac f W/\W.cell? ⟨L.pb,10,none⟩=some (.map (some L.kb))/\W.cell? ⟨F,0,none⟩=some (.int .u64 th.cur.job)/\W.cell? ⟨F,1,none⟩=some (.string kp)/\(Instr.lookup 120 (.map (some L.kb)) (.agg #[.int .u64 th.cur.job,.string kp]) true).run Tryz.prog W=.ok (.tuple #[.agg #[.int .i64 0,.int .i64 0],.bool false]) W)
  (first|with_reducible exact a.O _ (aa.drew oR)|with_reducible exact a.O _ oR|with_reducible exact a.O _ (aa.alloc oR _)|with_reducible exact a.O _ (aa.alloc (aa.drew oR) _)|with_reducible exact a.O _ (aa.drew (aa.alloc oR _))|fail) (fail)
 all_goals (
  clear an a;obtain⟨j,aw⟩:=eX ((f.alloc (.cells #[.int .i64 0,.int .i64 0] 35)).drew);rw[<-aw];have a7:ac f j:=by rw[aw];exact(oR.alloc _).drew
  have l:=bb.O.U a7;have p:=a7.J bc.O nF;have bt:=(l.p1 (by decide)).2.I 11;simp[bi] at bt
  have o:∀q,(Instr.lookup 121 (.map (some L.ab)) (.agg #[.int .u64 th.cur.job,.string kp]) false).run Tryz.prog (j.drewN q)=.ok (.int .i64 0) (j.drewN q):=λq=>by
   have o:=(((l.p13 (by decide)).2).heap (w':=j.drewN q) rfl).look (t:=121) gg Tryz.underlying121 (z:=.int .i64 0) (by kernel_rfl) d7.O;rw[<-B.O,gM] at o;rw[<-B.O,o];show Result.ok ((if s.away g=true then some (Value.int .i64 1) else none).getD _) _=_;rw[bm.O.2];rfl
  obtain⟨cq,cr⟩:=p.gE2;have d1:=hD l;have d3:=hD p;have dq:Hd (aK w j tag y):=hD (dp.O.trans (aK.U a7));clear aw a7 l p;go_upto_region 8 with fail
  go_quiet (fail)
  clear o bt cq cr;obtain⟨bp,az⟩:=eX (j.drewN nq);rw[<-az];have a8:ac j bp:=by rw[az];exact oR.drewN nq
  have bz:=d1.O.U a8;have p:=a8.J d3.O nF;obtain⟨cq,cr⟩:=p.gE2;have a9:=hD (qH (n:=g) bz dk.O S.O.1 S.O.2.1 D.O.1 D.O.2.1 S.O.2.2.1 S.O.2.2.2 D.O.2.2.1);rw[B.O] at a9;unfold ptr at a9;have dr:Hd (aK w bp tag y):=hD (dq.O.trans (aK.U a8));clear az a8 bz p
  go_wp2_with (go_at_call 93;refine a9.O.mono ?_;rintro b ea ⟨rfl,e2⟩)
  go_end0
  refine⟨rfl,(cl.then (s':=kw s th.cur g r t) (d:=0) dr.O ?_ e2).mo (by decide)⟩;exact⟨rfl,rfl,rfl,rfl,by simp,by simp,by simp[kw],[],by simp[kw],by simp⟩)
end
theorem rJ{t:TS}{n:Nm}{r:aC}{f:Fr}(c:t.rw n=some r)(b:r.sa=2):gN t n r 2 f= {t with fm:=au t.fm n (some f)}:=by
 have a:({r with sa:=2}:aC)=r:=by rw[<-b]
 unfold gN;rw[a,<-c,jc]
section
variable {G:cG}{w w':World}{tag tag':Nat->Nat}{L L':cj}{s s':PS}{n:Nm}{r:aC}
theorem BI(av:Value)(kd d:Nat)(cur:Nm)(fv:Value):(((dj av kd d cur fv).setIfInBounds 3 (.int .u64 0)).setIfInBounds 4 (.string ⟨#[]⟩)).setIfInBounds 5 (.pointer none)=dj av kd d fS (.pointer none):=by
 simp[dj,fS,sB]
theorem qI(f:aR w tag L s){k tp:Nat}{th:Th}(i:L.tps[k]?=some tp)(g:s.ths[k]?=some th):
 Calls Tryz.prog 77 #[ptr tp] w λe w'=>e=.returned (.tuple #[])/\aR w' tag L {s with ths:=s.ths.set k {th with cur:=fS,run:=false}}/\aa (λb=>b=tp) w w':=by
 obtain⟨y,d,av,fv,m,a,o,p,z,A⟩:=f.thW i g;have u:=a.I 3;have v:=a.I 4;have x:=a.I 5;simp[dj] at u v x;have C:=a.fz 3;have D:=a.fz 4;have E:=a.fz 5;have B:(w.setCell ⟨tp,3,none⟩ (.int .u64 0)).cell? ⟨tp,4,none⟩=some (.string (sB th.cur.M)):=by rw[(a.s_ 3 _).I 4];simp[dj]
 have c:=hD (aI m (aI a (aI o p)));have t:=hD f;have j:=hD (aI i g);unfold ptr;clear f i g y m a o p z A;go_enter Tryz.func77,Tryz.ntmps77;go_wp2_with fail
 go_end0
 have l:=((c.O.2.1.s_ 3 (.int .u64 0)).s_ 4 (.string ⟨#[]⟩)).s_ 5 (.pointer none);rw[BI] at l;have q:aa (λb=>b=tp) w (((w.setCell ⟨tp,3,none⟩ (.int .u64 0)).setCell ⟨tp,4,none⟩ (.string ⟨#[]⟩)).setCell ⟨tp,5,none⟩ (.pointer none)):=((ag _ tp 3 _).trans (ag _ tp 4 _)).trans (ag _ tp 5 _);exact⟨rfl,aQ.thread (k:=k) (th:=th) (av:=av) {th with cur:=fS,run:=false} t.O j.O.2 j.O.1 c.O.1 q l c.O.2.2.1 c.O.2.2.2 (λe=>by cases e) (λ_=>rfl),q⟩
structure fP(G:cG)(w:World)(tag:Nat->Nat)(L:cj)(s:PS)(k tp:Nat)(th:Th)(r:aC)(p:List aj)(f:Fr):Prop where
 h:aR w tag L s
 inv:aF G s (λ_=>False)
 htp:L.tps[k]?=some tp
 hk:s.ths[k]?=some th
 ha:th.act=none
 hrun:th.run=true
 hr:s.T.rw th.cur=some r
 h2:r.sa=2
 hf:s.T.fm th.cur=some f
 hfi:jv p r f
 hpr:s.prog th.cur.job=p
 hg:∃x,G th.cur.job=some (p,x)/\bw p x th.cur.M=some r.tk
 hP:lH p
 hT:eh p r.tk
 hn:cR th.cur
theorem fP.mk'(v:aR w tag L s)(a:aF G s (λ_=>False))(y:gJ G){k tp:Nat}{th:Th}(A:L.tps[k]?=some tp)(e:s.ths[k]?=some th)(z:th.act=none)(g:th.run=true):∃r p f,fP G w tag L s k tp th r p f:=by
 obtain⟨r,p,x,f,c,m,d,o,q,t,u⟩:=a.current e g;obtain⟨F,H,b,B,C,D,E,i,j,l⟩:=a.row_ok y c;rw[d] at b
 cases b
 exact⟨r,p,f,v,a,A,e,z,g,c,m,q,t,u,⟨x,d,o⟩,i,j,l⟩
structure oP(w W3:World)(tag tag3:Nat->Nat)(L L3:cj)(s:PS)(k tp gn g5:Nat)(th:Th)(f':Fr)(cs:Array Value):Prop where
 h:aR W3 tag3 L3 {s with T:={s.T with fm:=au s.T.fm th.cur (some f')}}
 go:aK w W3 tag tag3
 bn:ae W3 gn 58 #[.int .u64 th.cur.job,.string (sB th.cur.M)]
 bs:ae W3 g5 181 cs
 lk:L3= {L with fl:=L3.fl}
 t0:tag3 gn=0/\tag3 g5=0
 sz:w.heap.size<=gn/\w.heap.size<=g5
 tp15:tag3 tp=15
theorem uV{k tp:Nat}{th:Th}{p:List aj}{f:Fr}(a:fP G w tag L s k tp th r p f)(W:(f.run1 p).2=.more):
 Calls Tryz.prog 46 #[ptr L.pb,ptr tp] w λc w'=>c=.returned (.tuple #[])/\cl w w' tag L s (eA s k) 4:=by
 have N:=a.h;obtain⟨al,d,av,fv,b8,P,b9,ba,an,bb⟩:=N.thW a.htp a.hk;obtain⟨q,K⟩:=eX (L.fp th.cur);have ab:=an a.hrun;rw[<-K] at ab;subst ab;have aw:=P.I 3;have az:=P.I 4;simp[dj] at aw az;obtain⟨A,E⟩:=eX (w.alloc (.cells #[.int .u64 th.cur.job,.string (sB th.cur.M)] 58));have Q:ac w A:=by rw[E];exact(aa.refl _ w).alloc _
 obtain⟨V,H⟩:=eX w.heap.size;have a4:ae A V 58 #[.int .u64 th.cur.job,.string (sB th.cur.M)]:=by rw[E,H];exact bN
 have C:=N.U Q;obtain⟨S,B⟩:=C.p16 th.cur f a.hf (by simp);rw[a.hpr,<-K] at S;rw[a.hpr] at B;have l:=hD (nu (C.tagB (i:=100+q) (by omega)) S a.hP.ok (B a.hfi.res) a.hfi.res);unfold nZ at l;obtain⟨f',m⟩:=eX ((f.run1 p).1);rw[W,<-m] at l;simp only[hU,sP] at l;have am:=Q.J P nF;have aE:=am.I 5;simp[dj,ptr] at aE;have e:=hD a;have a3:=hD E.symm;have Z:=hD H;have z:=hD C;have a1:=hD Q;have X:=hD a4;have b3:=hD K;have b1:=hD m;have b4:=hD W;have a2:=hD al;have ad:tag V=0:=fL N.tlt (by rw[H];exact lR);have Y:=hD ad
 have b2:Hd (f'.result=none->fN p f'):=hD λb6=>by
  rcases pH a.hP.ok (B a.hfi.res) with⟨x,c,_⟩|⟨c,_⟩
  ·have:=(jb a.hfi.ok a.hfi.res (p:=p)).done x c
   rw[<-m,b6] at this
   cases this.2.2
  ·rw[m];exact c
 unfold ptr;clear a N al b8 P b9 ba an bb K E Q H a4 C S B m W am ad;go_enter Tryz.func46,Tryz.ntmps46;go_upto_region 1 with fail;rw[a3.O,<-Z.O];clear a3 aw az
 go_upto_region 2 with(go_at_call 86;refine l.O.mono ?_;rintro c g ⟨bc,bk,rfl,⟨ar,a5⟩,v,b7⟩)
 clear l aE;obtain⟨R,F⟩:=eX (g.alloc (.cells #[.int .u8 1,.string ⟨#[]⟩,.int .i64 0,.slice none 0 0,.int .i64 0,.int .i64 0,.int .i64 0] 181));obtain⟨a7,o⟩:=eX g.heap.size;rw[<-F,<-o];have y:ac g R:=by rw[F];exact oR.alloc _
 have bs:ae R a7 181 #[.int .u8 1,.string ⟨#[]⟩,.int .i64 0,.slice none 0 0,.int .i64 0,.int .i64 0,.int .i64 0]:=by rw[F,o];exact bN
 obtain⟨b0,u⟩ :∃t,t=ct tag A g (100+q):=⟨_,rfl⟩
 have a9:=z.O.part (i:=100+q) v
 have a6:aT g (λb=>ct tag A g (100+q) b=100+q) q ar p f':=a5.mo λb j=>by
  rcases j with j|j
  ·exact(bu z.O.tlt b (by rw[j];omega)).trans j
  ·exact fe j
 have ai:s.T.fm th.cur≠none:=by rw[e.O.hf];simp
 have D:=a9.frame (n:=th.cur) b3.O ai (by rw[e.O.hpr];exact a6) (by rw[e.O.hpr];exact b2.O);rw[<-u] at D
 have a8:oP w R tag b0 L {L with fl:=au L.fl th.cur ar} s k tp V a7 th f' #[.int .u8 1,.string ⟨#[]⟩,.int .i64 0,.slice none 0 0,.int .i64 0,.int .i64 0,.int .i64 0]:=⟨D.U y,((aK.U a1.O).trans (by rw[u];exact aK.part z.O.tlt (by omega) v)).trans (aK.U y),y.J (v.J X.O (λc=>by rw[Y.O] at c;omega)) nF,bs,rfl,⟨by
  rw[u];unfold ct;rw[yb (λc=>absurd X.O.lt (zC.2 c.1))];exact Y.O,fL D.tlt (by rw[o];exact lR)⟩,⟨by rw[Z.O];exact lR,by rw[o];exact lT a1.O.size v.size⟩,by rw[u,bu z.O.tlt tp (by rw[a2.O];decide)];exact a2.O⟩
 have a0:=hD a8;have bf:=hD y;clear F o y u a9 a5 a6 ai D a8;have s0:=bs.I 0;simp at s0;clear bs v b7;go_wp2_with fail
 go_end0
 have b5:eA s k= {s with T:={s.T with fm:=au s.T.fm th.cur (some f')}}:=by
  unfold eA;rw[PS.th_eq e.O.hk,e.O.hr,e.O.hf];simp only;rw[e.O.hpr,b4.O];simp only;rw[rJ e.O.hr e.O.h2,b1.O]
 rw[b5];exact⟨rfl,b0,_,a0.O.h,a0.O.go,⟨rfl,rfl,rfl,rfl,by simp;omega,by simp;omega,by simp;omega,[],by simp,by simp⟩⟩
theorem fP.step{k tp:Nat}{th:Th}{p:List aj}{f:Fr}(a:fP G w tag L s k tp th r p f):kD p f (iH p r.tk r.kn) (f.run1 p):=jb a.hfi.ok a.hfi.res
theorem fP.opn{k tp:Nat}{th:Th}{p:List aj}{f:Fr}(a:fP G w tag L s k tp th r p f):0<=r.opn/\r.opn<=16:=by
 have b:=a.inv.t.row _ _ a.hr;have c:=b.opn;have d:=b.kn
 have e:dC s.T.rw th.cur r.kn<=r.kn:=by
  unfold dC;exact lT (List.length_filter_le _ _) (by simp)
 omega
theorem fP.fk{k tp:Nat}{th:Th}{p:List aj}{f:Fr}{t:aA}(a:fP G w tag L s k tp th r p f)(q:(f.run1 p).2=.fork t):
 (⟨th.cur.job,t.M⟩ :Nm)=aD th.cur r.kn/\s.T.rw ⟨th.cur.job,t.M⟩=none/\t.M=th.cur.M++ [UInt8.ofNat (r.kn+1)]/\cR ⟨th.cur.job,t.M⟩/\t.args.length<=100000/\(aW p r.tk)[r.kn]?=some t/\∃x u,G th.cur.job=some (p,x)/\bw p x t.M=some u:=by
 have o:=a.step;have l:f.run1 p=((f.run1 p).1,.fork t):=by rw[<-q]
 obtain⟨d,v,z⟩:=ke a.inv.t a.hr a.hfi (l ▸ o);have b:=(nB a.hP.ok a.hT).2 t (yh d);have c:=(cY d).1;have m:=a.inv.t.M a.hr;rw[m] at c;have g:(⟨th.cur.job,t.M⟩ :Nm)=aD th.cur r.kn:=by rw[c];rfl
 obtain⟨x,i,j⟩:=a.hg;have y:=b.al;have e:=a.hP.ok.fn b.fn0 b.fn1;have:=e.ar;have:=e.r16;exact⟨g,by rw[g];exact v,c,⟨a.hn.1,b.pth⟩,by omega,d,x,t,i,by rw[c];exact lm j d⟩
theorem uT{k tp:Nat}{th:Th}{p:List aj}{f:Fr}{t:aA}(c:fP G w tag L s k tp th r p f)(X:(f.run1 p).2=.fork t)(b7:jN L s)(bf:∀g,s.known g=none)(ba:∀g,s.away g=false)(bk:L.most<=1000000)
 (bn:∀g p x u,s.T.rw g=none->G g.job=some (p,x)->bw p x g.M=some u->(s.T.ks.length:Int)<L.most):
 Calls Tryz.prog 46 #[ptr L.pb,ptr tp] w λe w'=>e=.returned (.tuple #[])/\cl w w' tag L s (eA s k) 4:=by
 obtain⟨c1,an,c2,c3,c4,cq,x,u,c5,c6⟩:=c.fk X;have l:=hD (aI c1 (aI an (aI c2 (aI c3 (aI c4 (bn _ _ _ _ an c5 c6))))));have v:=hD (aI bf (aI ba bk));have c7:=hD b7;clear c1 an c2 c3 c4 cq c5 c6 bf ba bk bn b7;have Y:=c.h;obtain⟨bo,d,av,fv,ch,Z,ci,ck,bt,cm⟩:=Y.thW c.htp c.hk;obtain⟨q,W⟩:=eX (L.fp th.cur);have bb:=bt c.hrun;rw[<-W] at bb;subst bb;have bx:=Z.I 3;have bz:=Z.I 4;simp[dj] at bx bz;obtain⟨H,R⟩:=eX (w.alloc (.cells #[.int .u64 th.cur.job,.string (sB th.cur.M)] 58));have a0:ac w H:=by rw[R];exact(aa.refl _ w).alloc _
 obtain⟨a5,V⟩:=eX w.heap.size;have b2:ae H a5 58 #[.int .u64 th.cur.job,.string (sB th.cur.M)]:=by rw[R,V];exact bN
 have P:=Y.U a0;obtain⟨a4,N⟩:=P.p16 th.cur f c.hf (by simp);rw[c.hpr,<-W] at a4;rw[c.hpr] at N;have z:=hD (nu (P.tagB (i:=100+q) (by omega)) a4 c.hP.ok (N c.hfi.res) c.hfi.res);unfold nZ at z;obtain⟨f',A⟩:=eX ((f.run1 p).1);rw[X,<-A] at z;simp only[hU,kQ] at z;have br:=a0.J Z nF;have c0:=br.I 5;simp[dj,ptr] at c0;have a:=hD c;have b1:=hD R.symm;have az:=hD V;have F:=hD P;have aE:=hD a0;have ar:=hD b2;have cd:=hD W;have c8:=hD A;have ce:=hD X;have b0:=hD bo;have bc:tag a5=0:=fL Y.tlt (by rw[V];exact lR);have aw:=hD bc
 have c9:Hd (f'.result=none->fN p f'):=hD λcg=>by
  rcases pH c.hP.ok (N c.hfi.res) with⟨x,e,_⟩|⟨e,_⟩
  ·have:=(jb c.hfi.ok c.hfi.res (p:=p)).done x e
   rw[<-A,cg] at this
   cases this.2.2
  ·rw[A];exact e
 unfold ptr;clear c Y bo ch Z ci ck bt cm W R a0 V b2 P a4 N A X br bc;go_enter Tryz.func46,Tryz.ntmps46;go_upto_region 1 with fail;rw[b1.O,<-az.O];clear b1 bx bz
 go_upto_region 2 with(go_at_call 86;refine z.O.mono ?_;rintro e m ⟨E,K,rfl,⟨bv,b3⟩,D,bp⟩)
 clear z c0;obtain⟨kp,a9⟩:=eX (sB t.M);obtain⟨al,a8⟩:=eX t.fn;obtain⟨ai,a7⟩:=eX t.args.length;obtain⟨am,ab⟩:=eX ((t.fuel:Int):Int);rw[<-a9,<-a8,<-a7,<-ab];have bq:=bp t rfl;obtain⟨a3,S⟩:=eX (m.alloc (.cells #[.int .u8 2,.string kp,.int .i64 al,.slice E ai K,.int .i64 am,.int .i64 0,.int .i64 0] 181));obtain⟨b5,B⟩:=eX m.heap.size;rw[<-S,<-B];have j:ac m a3:=by rw[S];exact oR.alloc _
 have bs:ae a3 b5 181 #[.int .u8 2,.string kp,.int .i64 al,.slice E ai K,.int .i64 am,.int .i64 0,.int .i64 0]:=by rw[S,B];exact bN
 obtain⟨cp,C⟩ :∃t,t=ct tag H m (100+q):=⟨_,rfl⟩
 have b9:=F.O.part (i:=100+q) D
 have b4:aT m (λb=>ct tag H m (100+q) b=100+q) q bv p f':=b3.mo λb o=>by
  rcases o with o|o
  ·exact(bu F.O.tlt b (by rw[o];omega)).trans o
  ·exact fe o
 have bm:s.T.fm th.cur≠none:=by rw[a.O.hf];simp
 have Q:=b9.frame (n:=th.cur) cd.O bm (by rw[a.O.hpr];exact b4) (by rw[a.O.hpr];exact c9.O);rw[<-C] at Q
 have b8:oP w a3 tag cp L {L with fl:=au L.fl th.cur bv} s k tp a5 b5 th f' #[.int .u8 2,.string kp,.int .i64 al,.slice E ai K,.int .i64 am,.int .i64 0,.int .i64 0]:=⟨Q.U j,((aK.U aE.O).trans (by rw[C];exact aK.part F.O.tlt (by omega) D)).trans (aK.U j),j.J (D.J ar.O (λe=>by rw[aw.O] at e;omega)) nF,bs,rfl,⟨by
  rw[C];unfold ct;rw[yb (λe=>absurd ar.O.lt (zC.2 e.1))];exact aw.O,fL Q.tlt (by rw[B];exact lR)⟩,⟨by rw[az.O];exact lR,by rw[B];exact lT aE.O.size D.size⟩,by rw[C,bu F.O.tlt tp (by rw[b0.O];decide)];exact b0.O⟩
 have a2:=hD b8;have cb:=hD j;clear S B j C b9 b3 b4 bm Q b8;have b6:=a2.O.h;have j:=a2.O.go;obtain⟨y,ad⟩ :∃y,s.ds[k]?=some y:=⟨s.ds[k]'(by rw[a.O.inv.nlen];exact(gS a.O.hk).1),gG _⟩
 have a6:=(a.O.inv.th k th a.O.hk).free a.O.ha;rw[PS.dq_eq ad] at a6;have a1:=hD (uQ (r:=r) (x:=y) b6 a.O.inv.many a.O.htp a.O.hk a.O.hr a.O.h2 ⟨a.O.opn.1,Ya a.O.opn.2 (by decide)⟩ a.O.hn t E K _ l.O.2.2.1 l.O.2.2.2.1 l.O.2.1 l.O.2.2.2.2.2 v.O.2.2 _ (bq.kp cb.O nG) l.O.2.2.2.2.1 (v.O.1 _) (v.O.2.1 _) a.O.inv.nnodup ad a6 c7.O.nm);unfold db ptr at a1;rw[<-a9,<-a8,<-a7,<-ab] at a1;obtain⟨s0,cs,cv,cB,d0⟩:=bs.gE5;clear bs D bp bq b6 j ad a6 a9 a8 a7 ab
 go_wp2_with (go_at_call 87;refine a1.O.mono ?_;rintro e cr ⟨rfl,cn⟩)
 go_end0
 have cf:eA s k=dS (kw {s with T:={s.T with fm:=au s.T.fm th.cur (some f')}} th.cur ⟨th.cur.job,t.M⟩ r t) k ⟨th.cur.job,t.M⟩:=by
  unfold eA;rw[PS.th_eq a.O.hk,a.O.hr,a.O.hf];simp only;rw[a.O.hpr,ce.O];simp only;unfold gW;rw[v.O.1];simp only;rw[yb (by rw[v.O.2.1];decide),l.O.1,<-c8.O];rfl
 rw[cf];refine⟨rfl,(cl.then (d:=0) a2.O.go ?_ cn).mo (by decide)⟩;exact⟨rfl,rfl,rfl,rfl,by simp,by simp,by simp,[],by simp,by simp⟩
end
theorem pN{α:Type}(f:Nm->α)(n:Nm)(x y:α):au (au f n x) n y=au f n y:=by
 funext m
 by_cases a:m=n
 ·subst a;rw[ax,ax]
 ·rw[af _ _ a,af _ _ a,af _ _ a]
noncomputable def tV(t:TS)(n:Nm)(r:aC):Nm:=if eJ t n r=true then dd n else fS
theorem w7{rows:Nm->Option aC}{b:Nm}{i kn:Nat}(d:i<kn)(c:bZ rows (aD b i)=true):1<=dC rows b kn:=by
 unfold dC;exact List.length_pos_of_mem (a:=i) (Yg.2 ⟨zw.2 d,c⟩)
theorem xN{G:cG}{w:World}{F:Nat->Prop}{z K:Nat}{N:Int}{cnt:Nat}{rp:Nm->Nat}{t:TS}{n:Nm}{r:aC}(y:aO)(u:∀b,F b->b<w.heap.size)(p:bD w F z K N t.rw cnt rp)(A:bW G t)(g:t.rw n=some r)(m:r.sa=2)(v:cR n):
 Calls Tryz.prog 54 #[.pointer (some ⟨z,0,none⟩),aP n,eT y] w λe w'=>e=.returned (.tuple #[aP (tV t n r),.bool (eJ t n r),.int .i64 0])/\bD w' F z K N (bh t n r y true).rw cnt rp/\aa F w w':=by
 have Q:=A.row n r g
 rcases Q.up with⟨c,W⟩|⟨c,a,i,q,l,f,P⟩
 ·have d:eJ t n r=false:=by unfold eJ;rw[c]
  have o:(bh t n r y true).rw=au t.rw n (some {r with sa:=6,res:=y,here:=true}):=by unfold bh;simp only;rw[c]
  refine(xd y u p v g (.inl m) c).mono ?_;rintro e w' ⟨rfl,j,k⟩;refine⟨?_,?_,k⟩
  ·unfold tV
   rw[d,yb (by decide)];rfl
  ·rw[o]
   exact j _ rfl rfl rfl rfl rfl
 ·have x:dd n=a:=by rw[l,ky]
  have E:=A.row a q f
  have S:bZ t.rw (aD a i)=true:=by
   rw[<-l];unfold bZ;rw[g];simp[m]
  have T:=w7 P S
  have V:dC t.rw a q.kn<=q.kn:=by
   unfold dC;exact lT (List.length_filter_le _ _) (by simp)
  have C:1<=q.opn/\q.opn<=100:=by
   have:=E.opn;have:=E.kn;omega
  have B:a=⟨n.job,a.M⟩:=by rw[l];rfl
  have D:n.M=a.M++ [UInt8.ofNat (i+1)]:=by rw[l];rfl
  have o:(bh t n r y true).rw=au (au t.rw n (some {r with sa:=6,res:=y,here:=true})) a (some (eD q)):=by
   unfold bh;simp only;rw[c,x,f]
  have H:eJ t n r=decide (q.sa=3/\q.opn-1=0):=iA c (by rw[x];exact f)
  by_cases d:q.sa=3/\q.opn-1=0
  ·refine(xe y a a.M (UInt8.ofNat (i+1)) q B D u p v g (.inl m) c f C ⟨by omega,d.1⟩).mono ?_
   rintro e w' ⟨rfl,j,k⟩;refine⟨?_,?_,k⟩
   ·unfold tV
    rw[H,yg d,yf rfl,x]
   ·rw[o]
    exact j _ _ rfl rfl rfl rfl rfl rfl (by unfold eD;rw[yf d]) rfl rfl rfl
  ·have R:0<q.opn-1\/q.sa≠3:=by
    by_cases e:q.sa=3
    ·have:¬q.opn-1=0:=λf=>d ⟨e,f⟩
     exact .inl (by omega)
    ·exact .inr e
   refine(A9 y a a.M (UInt8.ofNat (i+1)) q B D u p v g (.inl m) c f C R).mono ?_;rintro e w' ⟨rfl,j,k⟩;refine⟨?_,?_,k⟩
   ·unfold tV
    rw[H,yd d,yb (by decide)];rfl
   ·rw[o]
    exact j _ _ rfl rfl rfl rfl rfl rfl (by unfold eD;rw[yb d]) rfl rfl rfl
end
end Go.Proofs.YtmdocplknceilaaGreat
