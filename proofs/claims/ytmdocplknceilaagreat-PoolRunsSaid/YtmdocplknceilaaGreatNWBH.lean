import Derived.Test.YtmdocplknceilaaGreatNWBG
import Derived.WideKeyEntry
set_option linter.all false
set_option maxRecDepth 100000
set_option maxHeartbeats 4000000
namespace Go.Proofs.YtmdocplknceilaaGreat
section
open Go.RowKit Go.Maps
theorem AK{P:Program}{w:World}{t k d:TypeId}{b:Nat}{a:Array MapEntry}{c:Nat}(f:Keyed P k)(C:P.underlying t=some (.map k d)){z:Value}(a0:∀u:World,(zeroValue d).run P u=.ok z u)(e:w.heap[b]?=some (.map a c))
 (W:MapKept.Stamped a c) (R:∀x∈a.toList,∃l,keyOf P k x.key=some l) {key:Value} {a1:Lit} (g:keyOf P k key=some a1):
 ∃(v0:Value) (st:Nat) (K:Array MapEntry) (F:Nat),(Instr.mapEntry t (.map (some b)) key).run P w=.ok (.tuple #[v0,.int .i64 (st:Int)]) (ChangeMaps.setBlock w b (.map K F))/\
  ∀(A:World) (val:Value),A.heap[b]?=some (.map K F)->∃H c',(Instr.entryStore t (.map (some b)) (.int .i64 (st:Int)) val).run P A=.ok () (ChangeMaps.setBlock A b (.map H c'))/\(Instr.mapUpdate t (.map (some b)) key val).run P w=.ok () (ChangeMaps.setBlock w b (.map H c')):=by
 obtain⟨a2,Q,_⟩:=W
 rcases f.find w g a.toList R with⟨o,p⟩|⟨j,D,o,p,B⟩
 ·have S:(a.push ⟨key,z,c⟩).toList[a.size]?=some ⟨key,z,c⟩:=by simp
  have T:((a.push ⟨key,z,c⟩).toList.map (·.born)).Nodup:=by
   rw[Yb,yS];refine zy.2 ⟨Q,by simp,λx Y y Z a3=>?_⟩;obtain⟨u,X,rfl⟩:=yL.1 Y;have:=a2 u X;simp at Z;omega
  have m:=WideElems.findIdx_born T S;rw[<-WideElems.findIdx_arr] at m;refine⟨z,c,a.push ⟨key,z,c⟩,c+1,?_,λA val v=>⟨(a.push ⟨key,z,c⟩).modify a.size (λd=>{d with val:=val}),c+1,?_,?_⟩⟩
  ·simp[Instr.mapEntry,run_underlying C,MapKept.run_getObj_map e,f.check w false g,o,a0,MapKept.run_setObj_map _ e,Result.andThen,ChangeMaps.setBlock,goInt]
  ·simp at m
   simp[Instr.entryStore,MapKept.run_getObj_map v,asInt,asIntOf,m,MapKept.run_setObj_map _ v,Result.andThen,ChangeMaps.setBlock]
  ·have E:(a.push ⟨key,z,c⟩).modify a.size (λd=>{d with val:=val})=a.push ⟨key,val,c⟩:=by
    apply Array.ext';rw[zu,Yb,Yb,<-Array.length_toList,WideElems.modify_last]
   rw[E];simp[Instr.mapUpdate,run_underlying C,MapKept.run_getObj_map e,f.check w false g,o,MapKept.run_setObj_map _ e,Result.andThen,ChangeMaps.setBlock]
 ·have N:a[j]?=some D:=by simpa using p
  have V:a.modify j (λd=>{d with key:=key})=a:=by
   apply Array.ext';rw[zu];apply zt;intro i;rw[zG]
   by_cases q:j=i
   ·subst q
    rw[p,<-B];simp
   ·simp[q]
  have m:=WideElems.findIdx_born Q p;rw[<-WideElems.findIdx_arr] at m;refine⟨D.val,D.born,a,c,?_,λA val v=>⟨a.modify j (λd=>{d with val:=val}),c,?_,?_⟩⟩
  ·simp[Instr.mapEntry,run_underlying C,MapKept.run_getObj_map e,f.check w false g,o,N,B,f.stays w g,V,MapKept.run_setObj_map _ e,Result.andThen,ChangeMaps.setBlock,goInt]
  ·simp[Instr.entryStore,MapKept.run_getObj_map v,asInt,asIntOf,m,MapKept.run_setObj_map _ v,Result.andThen,ChangeMaps.setBlock]
  ·have E:a.modify j (λd=>{d with key:=key,val:=val})=a.modify j (λd=>{d with val:=val}):=by
    apply Array.ext';rw[zu,zu];apply zt;intro i;rw[zG,zG]
    by_cases q:j=i
    ·subst q
     rw[p,<-B];simp
    ·simp[q]
   rw[<-E];simp[Instr.mapUpdate,run_underlying C,MapKept.run_getObj_map e,f.check w false g,o,N,B,f.stays w g,MapKept.run_setObj_map _ e,Result.andThen,ChangeMaps.setBlock]
theorem jD{w:World}{b:Nat}{d:Array MapEntry}{c:Nat}{a:Obj}(e:w.heap[b]?=some (.map d c)):aa (λx=>x=b) w (ChangeMaps.setBlock w b a):=
 ⟨rfl,rfl,rfl,by simp[ChangeMaps.setBlock],λk _ f=>ChangeMaps.heap_setBlock_other e a f⟩
theorem aN.entry{P:Program}{w:World}{t k j:TypeId}{b cnt:Nat}{g:Value->Option Value}{key z:Value}{H:Lit}(l:aN P w k b g cnt)(i:Keyed P k)(p:P.underlying t=some (.map k j))(E:∀u:World,(zeroValue j).run P u=.ok z u)(o:keyOf P k key=some H)(D:cnt<maxLen):
 ∃(v0:Value) (st:Nat) (e:World),(Instr.mapEntry t (.map (some b)) key).run P w=.ok (.tuple #[v0,.int .i64 (st:Int)]) e/\aa (λx=>x=b) w e/\
  ∀(a:World) (val:Value),a.heap[b]?=e.heap[b]?->∃f,(Instr.entryStore t (.map (some b)) (.int .i64 (st:Int)) val).run P a=.ok () f/\aN P f k b (iu g key (some val)) (if (g key).isSome then cnt else cnt+1)/\aa (λx=>x=b) a f:=by
 obtain⟨K,⟨R,Q,c,F,W⟩,V⟩:=id l;obtain⟨v0,st,T,N,q,y⟩:=AK i p E c F.stamped F.keys o;refine⟨v0,st,_,q,jD c,λa val d=>?_⟩;rw[ChangeMaps.heap_setBlock_same c _] at d;obtain⟨S,c',A,B⟩:=y a val d;obtain⟨w',m,C,_⟩:=l.put i p o D (v:=val);rw[B] at m
 cases m
 exact⟨_,A,C.heap (by rw[ChangeMaps.heap_setBlock_same d _,ChangeMaps.heap_setBlock_same c _]),jD d⟩
theorem lj{nms:List Nm}(d:nms.Nodup){n:Nm}{v:Nat}(b:nms[v]?=some n):iW nms n=some (.int .i64 (v:Int))/\eM nms n=(v,nms):=by
 have a:∃v:Nat,nms[v]?=some n:=⟨v,b⟩
 have hv:Classical.choose a=v:=by
  have c:=Classical.choose_spec a;have e:=(gS c)
  have f:=(gS b)
  obtain⟨j,g⟩:=e;obtain⟨k,i⟩:=f;exact(List.getElem_inj d).1 (g.trans i.symm)
 unfold iW eM;rw[dif_pos a,dif_pos a,hv];exact⟨rfl,rfl⟩
theorem ns{nms:List Nm}{n:Nm}(a:¬ ∃v:Nat,nms[v]?=some n):iW nms n=none/\eM nms n=(nms.length,nms++ [n]):=by
 unfold iW eM;rw[dif_neg a,dif_neg a];exact⟨rfl,rfl⟩
theorem AO{nms:List Nm}{n:Nm}(e:nms.Nodup)(g:¬ ∃v:Nat,nms[v]?=some n):iW (nms++ [n])=ay (iW nms) n (some (.int .i64 (nms.length:Int))):=by
 have f:(nms++ [n]).Nodup:=zy.2 ⟨e,by simp,λa i b j c=>by
  rw[yw.1 j] at c;subst c;exact g (yF i)⟩
 funext m
 by_cases c:m=n
 ·subst c
  rw[aA];exact(lj f (by simp)).1
 ·rw[ag _ _ c]
  by_cases d:∃v:Nat,nms[v]?=some m
  ·obtain⟨v,hv⟩:=d
   rw[(lj e hv).1];exact(lj f (by rw[yi (gS hv).1];exact hv)).1
  ·rw[(ns d).1]
   refine(ns λ⟨v,hv⟩=>?_).1
   rcases gH hv with hv|⟨_,hv⟩
   ·exact d ⟨v,hv⟩
   ·exact c hv
theorem we(nms:List Nm)(n:Nm):iq (nms++ [n])=λy=>if y=(nms.length:Int) then some (aV n) else iq nms y:=by
 funext y;unfold iq
 by_cases a:y<0
 ·rw[yf a,yb (by omega),yf a]
 ·rw[yb a]
  obtain⟨k,rfl⟩ :∃k:Nat,y=(k:Int):=⟨y.toNat,by omega⟩
  rw[yo]
  by_cases b:k=nms.length
  ·subst b
   rw[yf rfl];simp
  ·rw[yb (λc=>b (Int.ofNat_inj.1 c)),yb a]
   by_cases d:k<nms.length
   ·rw[yi d]
   ·rw[zv (by simp;omega),zv (by omega)]
section
variable {w w':World}{tag tag':Nat->Nat}{L L':cP}{s s':PS}{n:Nm}
theorem aY.thW(b:aX w tag L s){k tp:Nat}{th:Th}(e:L.tps[k]?=some tp)(c:s.ths[k]?=some th):tag tp=15/\∃d av fv,L.dp[k]?=some d/\ae w tp 131 (dQ av th.kn d th.cur fv)/\(th.act=none->av=.pointer none)/\
 (∀j i,th.act=some (j,i)->∃pl p,L.ps[j]?=some pl/\pl[i]?=some p/\av=ptr p)/\(th.run=true->fv=ptr (L.fp th.cur))/\(th.run=false->fv=.pointer none):=by
 obtain⟨l,d,av,fv,a,f,g⟩:=(b.p15 (by decide)).2.1 k th c;rw[e] at a
 cases a
 exact⟨f,d,av,fv,g⟩
theorem Es(av a:Value)(kd kd' d:Nat)(cur:Nm)(fv:Value):((dQ av kd d cur fv).setIfInBounds 0 a).setIfInBounds 1 (.int .i64 (kd':Int))=dQ a kd' d cur fv:=by simp[dQ]
theorem aY.setAct{k tp d kd':Nat}{th:Th}{a:Nat×Nat}{pl:List Nat}{p:Nat}(g:aX w tag L s)(x:L.tps[k]?=some tp)(t:s.ths[k]?=some th){av fv:Value}(q:L.dp[k]?=some d)(o:ae w tp 131 (dQ av th.kn d th.cur fv))(u:th.run=true->fv=ptr (L.fp th.cur))(v:th.run=false->fv=.pointer none)
 (l:L.ps[a.1]?=some pl) (m:pl[a.2]?=some p):aX ((w.setCell ⟨tp,0,none⟩ (.pointer (some ⟨p,0,none⟩))).setCell ⟨tp,1,none⟩ (.int .i64 (kd':Int))) tag L {s with ths:=s.ths.set k {th with act:=some a,kn:=kd'}}/\aa (λb=>b=tp) w ((w.setCell ⟨tp,0,none⟩ (.pointer (some ⟨p,0,none⟩))).setCell ⟨tp,1,none⟩ (.int .i64 (kd':Int))):=by
 have e:=(o.s_ 0 (.pointer (some ⟨p,0,none⟩))).s_ 1 (.int .i64 (kd':Int));rw[Es] at e;have f:aa (λb=>b=tp) w ((w.setCell ⟨tp,0,none⟩ (.pointer (some ⟨p,0,none⟩))).setCell ⟨tp,1,none⟩ (.int .i64 (kd':Int))):=(af _ tp 0 _).trans (af _ tp 1 _);exact⟨aY.thread (k:=k) (th:=th) {th with act:=some a,kn:=kd'} g t x q f e (λc=>by cases c) (λj i c=>by cases c;exact⟨pl,p,l,m,rfl⟩) u v,f⟩
theorem sg(ai:aX w tag L s)(cv:fC s.C s.ds){k tp:Nat}{th:Th}{x:aT}(da:L.tps[k]?=some tp)(d2:s.ths[k]?=some th)(bq:dh n)(d5:s.nms.Nodup)(db:s.ds[k]?=some x)(d0:own x.acts x.on=none)(d8:s.nms.length<=1000000000):
 Calls Tryz.prog 93 #[ptr L.pb,ptr tp,aV n] w λe w'=>e=.returned (.tuple #[])/\cV w w' tag L s (eE s k n) 1:=by
 obtain⟨l,an⟩:=eX (w.alloc (.cells #[.int .u64 n.job,.string (sB n.M)] 58));have c0:ac w l:=by rw[an];exact(aa.refl _ w).alloc _
 obtain⟨R,aw⟩:=eX w.heap.size;have b5:ae l R 58 #[.int .u64 n.job,.string (sB n.M)]:=by rw[an,aw];exact bN
 have al:=ai.U c0;have d9:=(al.p1 (by decide)).2;obtain⟨ee,d3⟩:=bq.key
 have T:∀q,(Instr.lookup 117 (.map (some L.nb)) (.agg #[.int .u64 n.job,.string (sB n.M)]) true).run Tryz.prog (l.drewN q)=.ok (.tuple #[(iW s.nms n).getD (.int .i64 0),.bool (iW s.nms n).isSome]) (l.drewN q):=λq=>by
  have:=(((al.p9 (by decide)).2).heap (w':=l.drewN q) rfl).look2 (t:=117) fF Tryz.underlying117 (z:=.int .i64 0) (by kernel_rfl) d3;rw[gl] at this;exact this
 have b8:=d9.I 7;simp[bB] at b8;obtain⟨dl,dm⟩:=b5.gE2;have cg:=hD an.symm;have dr:=hD aw;have cd:=hD bq;have ec:=hD ai;have c9:=hD al;have dn:=hD b5;have ce:=hD c0;have g:=hD (aI da (aI d2 (aI db d0)));have cb:=hD cv;have Z:=hD (aI d5 d8);have d1:tag R=0:=hU ai.tlt (by rw[aw];exact lR);have dv:=hD d1;unfold ptr aV eT;clear ai bq c0 an aw b5 al d9 d3 da d2 db d0 cv d5 d8 d1;go_enter Tryz.func93,Tryz.ntmps93;go_upto_region 1 with fail;rw[cg.O,<-dr.O];clear cg
 by_cases ar:∃v:Nat,s.nms[v]?=some n
 ·obtain⟨v,hv⟩:=ar
  obtain⟨X,a7⟩:=lj Z.O.1 hv;rw[X] at T;change ∀q,(Instr.lookup 117 (.map (some L.nb)) (.agg #[.int .u64 n.job,.string (sB n.M)]) true).run Tryz.prog (l.drewN q)=.ok (.tuple #[.int .i64 (v:Int),.bool true]) (l.drewN q) at T;have Q:=hD (aI hv a7);clear hv X a7
  go_quiet (fail)
  obtain⟨c,H⟩:=eX (l.drewN nq);rw[<-H];have D:ac l c:=by rw[H];exact oR.drewN nq
  have j:=hD (c9.O.U D);have b3:Hd (aQ w c tag tag):=hD (aQ.U (ce.O.trans D));clear T b8 dl dm H D;obtain⟨a4,d,av,fv,A,K,bx,bz,a5,a6⟩:=j.O.thW g.O.1 g.O.2.1;obtain⟨b9,pl,E,o,c6,c7,c8,a9⟩:=(j.O.p3 (by decide)).dq k x g.O.2.2.1;have bo:d=b9:=yz (A.symm.trans E);subst bo;have b2:=hD (qG (j.O.p3 (by decide)) cb.O g.O.2.2.1 A o g.O.2.2.2 (v:Int));have a1:=K.I 2;simp[dQ,ptr] at a1;have b1:=hD K;have f:=hD (aI a4 (aI A (aI o (aI a9 (aI a5 a6)))));clear a4 A K bx bz a5 a6 E o c6 c7 c8 a9;go_upto_region 5 with fail
  go_wp2_with (go_at_call 142;refine b2.O.mono ?_;rintro e W8 ⟨rfl,a8,e8,a2⟩;have P:=hD a8;have ba:=hD a2;clear a8 a2 a1;have m:=P.O.J b1.O (λe=>by rw[f.O.1] at e;exact absurd e (by decide));have b6:=m.I 0;have b7:=m.I 1;have e4:=m.fz 0;have e5:=m.fz 1;have b0:=hD m;simp[dQ] at b6 b7;clear m)
  go_end0
  have bk:=ba.O (eN x (v:Int)) rfl rfl rfl;have bb:=(j.O.part (i:=3) P.O).fill3 (bk.mo (kG j.O.tlt (by decide))) (iZ.snoc f.O.2.2.1 _);have S:(L.ps.set k (pl++ [c.heap.size]))[k]?=some (pl++ [c.heap.size]):=bD (gS f.O.2.2.1).1;obtain⟨bf,c1⟩:=bb.setAct (kd':=1) (a:=(k,x.acts.length)) (p:=c.heap.size) g.O.1 g.O.2.1 f.O.2.1 b0.O f.O.2.2.2.2.1 f.O.2.2.2.2.2 S (by show(pl++ [_])[x.acts.length]?=_;rw[<-f.O.2.2.2.1];simp);have bt:cS tag c W8 3 tp=15:=by rw[bJ j.O.tlt tp (by rw[f.O.1];decide)];exact f.O.1
  refine⟨rfl,_,({L with ps:=L.ps.set k (pl++ [c.heap.size])}:cP),?_,(b3.O.trans (aQ.part j.O.tlt (by decide) P.O)).trans (aQ.same (i:=15) (by decide) (c1.mono λb e=>by rw[e];exact bt)),⟨rfl,rfl,rfl,rfl,by show L.n<=L.n+1;omega,by show(L.fn:Int)<=L.fn+1;omega,(by simp only[eE,Q.O.2];omega),[],by simp[eE],by simp⟩⟩
  have bp:eE s k n= {{s with C:=s.C,ds:=s.ds.set k (eN x (v:Int))} with ths:=s.ths.set k {th with act:=some (k,x.acts.length),kn:=1}}:=by
   unfold eE;rw[PS.dq_eq g.O.2.2.1,PS.th_eq g.O.2.1,Q.O.2]
  rw[bp];exact bf
 ·obtain⟨X,a7⟩:=ns ar
  rw[X] at T;change ∀q,(Instr.lookup 117 (.map (some L.nb)) (.agg #[.int .u64 n.job,.string (sB n.M)]) true).run Tryz.prog (l.drewN q)=.ok (.tuple #[.int .i64 0,.bool false]) (l.drewN q) at T;have Q:=hD (aI a7 (aI ar X));clear ar X a7
  go_quiet (fail)
  obtain⟨c,H⟩:=eX (l.drewN nq);rw[<-H];have D:ac l c:=by rw[H];exact oR.drewN nq
  have am:=c9.O.U D;have j:=hD am;have e0:=hD (ce.O.trans D);have cB:=D.J dn.O nF;have dp:=hD cB;have V:=(am.p1 (by decide)).2;clear T b8 dl dm H D;have cn:=V.I 8;simp[bB] at cn;have S:=λeb=>(am.p10 (by decide)).2.1.len (t:=118) Tryz.underlying118 eb
  obtain⟨N,br⟩:=eX s.nms.length;rw[<-br] at S;have a0:=hD br;clear am V cB br;go_upto_region 4 with fail;clear S cn;have d7:(Lit.int .i64 (N:Int)).wf=true:=by rw[a0.O];have:=Z.O.2;unfold Lit.wf;rw[zm,zR,zR];exact⟨Ya (by decide) (zD _),Ya (Int.ofNat_le.2 this) (by decide)⟩
  obtain⟨ef,d4⟩:=cd.O.key;obtain⟨v0,st,cm,cp,c2,cr⟩:=(((j.O.p9 (by decide)).2).heap (w':=c.drew) rfl).entry (t:=117) fF Tryz.underlying117 (z:=.int .i64 0) (λu=>by kernel_rfl) d4 (by have:=Z.O.2;unfold maxLen;omega);obtain⟨e1,e2,dk,c3⟩:=cr cm (.int .i64 (N:Int)) rfl;have bv:=(j.O.p9 (by decide)).1;have aE:=(j.O.p10 (by decide)).1;have a3:L.mm≠L.nb:=λe=>by rw[e,bv] at aE;exact absurd aE (by decide)
  obtain⟨v1,ea,b4,e3,c4,cs⟩:=(((((j.O.p10 (by decide)).2.1).heap (w':=c.drew) rfl).only c2 a3).only c3 a3).entry (t:=118) tI Tryz.underlying118 (z:=.agg #[.int .u64 0,.string ⟨#[]⟩]) (λu=>by kernel_rfl) (Maps.keyOf_int_mk Tryz.underlying2 d7) (by have:=Z.O.2;unfold maxLen;omega);obtain⟨y,cq,dd,c5⟩:=cs b4 (aV n) rfl;have ch:Hd (aa (λb=>b=L.nb\/b=L.mm) c cm):=hD ((aa.drew (aa.refl _ c)).trans (c2.mono λ_ e=>.inl e));have ci:Hd (aa (λb=>b=L.nb\/b=L.mm) c e1):=hD (ch.O.trans (c3.mono λ_ e=>.inl e));have ck:Hd (aa (λb=>b=L.nb\/b=L.mm) c b4):=hD (ci.O.trans (c4.mono λ_ e=>.inr e));have ad:Hd (aa (λb=>b=L.nb\/b=L.mm) c y):=hD (ck.O.trans (c5.mono λ_ e=>.inr e));have V:=(j.O.p1 (by decide))
  have B:Hd (∀W,aa (λb=>b=L.nb\/b=L.mm) c W->aa (λb=>b=L.nb\/b=L.mm) c W/\W.cell? ⟨L.pb,7,none⟩=some (.map (some L.nb))/\W.cell? ⟨L.pb,8,none⟩=some (.map (some L.mm))/\W.cell? ⟨R,0,none⟩=some (.int .u64 n.job)/\W.cell? ⟨R,1,none⟩=some (.string (sB n.M))):=hD λW bm=>by
   have E:=bm.J V.2 (λe=>by rcases e with e|e<;>have:=V.1<;>rw[e] at this<;>simp_all);have o:=bm.J dp.O (λe=>by rcases e with e|e<;>have:=dv.O<;>rw[e] at this<;>simp_all);exact⟨bm,E.I 7,E.I 8,o.I 0,o.I 1⟩
  have e6:=B.O c oR
  have dz:Hd (aN Tryz.prog y 58 L.nb (dY (iW (s.nms++ [n]))) (s.nms++ [n]).length):=hD (by
   have q:=(dk.only c4 (λe=>a3 e.symm)).only c5 (λe=>a3 e.symm);rw[lu,gl,Q.O.2.2,a0.O] at q;rw[AO Z.O.1 Q.O.2.1]
   simpa using q)
  have dw:Hd (aN Tryz.prog y 2 L.mm (gI .i64 (iq (s.nms++ [n]))) (s.nms++ [n]).length):=hD (by
   have q:=dd;rw[xZ,mX] at q;have e7:iq s.nms (N:Int)=none:=by unfold iq;rw[yb (by omega),a0.O];simp
   rw[e7] at q;rw[we,<-a0.O]
   simpa using q)
  change (Instr.mapEntry 117 (.map (some L.nb)) (.agg #[.int .u64 n.job,.string (sB n.M)])).run Tryz.prog c.drew=_ at cp;change (Instr.entryStore 118 (.map (some L.mm)) (.int .i64 (ea:Int)) (.agg #[.int .u64 n.job,.string (sB n.M)])).run Tryz.prog b4=_ at cq;clear d4 c2 cr dk c3 c4 cs dd c5 V a3 d7;have ab:=hD (aI bv aE);clear bv aE
  go_region_held3 (λW=>aa (λb=>b=L.nb\/b=L.mm) c W/\W.cell? ⟨L.pb,7,none⟩=some (.map (some L.nb))/\W.cell? ⟨L.pb,8,none⟩=some (.map (some L.mm))/\W.cell? ⟨R,0,none⟩=some (.int .u64 n.job)/\W.cell? ⟨R,1,none⟩=some (.string (sB n.M)))
   (first|with_reducible exact B.O _ ch.O|with_reducible exact B.O _ ci.O|with_reducible exact B.O _ ck.O|with_reducible exact B.O _ ad.O|with_reducible exact B.O _ (aa.drew oR)|with_reducible exact B.O _ oR|fail) (fail)
  clear e6 cp e2 e3 cq
  have az:∀b,b=L.nb\/b=L.mm->tag b∈[9,10]/\tag b≠0:=λb e=>by
   rcases e with e|e
   ·rw[e,ab.O.1];decide
   ·rw[e,ab.O.2];decide
  have cw:=j.O.keepL (tag':=tag) (Y:=[9,10]) ad.O (λb e=>(az b e).1) (λ_ _=>rfl) (λb bn=>lL (j.O.tlt b bn) ad.O.size);have F:=hD (cw.fillN ⟨ab.O.1,dz.O⟩ ⟨ab.O.2,dw.O,λe9 az=>(yH.1 az).elim ((j.O.p10 (by decide)).2.2 e9) (λe=>by rw[yw.1 e];exact cd.O)⟩);have b3:Hd (aQ w y tag tag):=hD ((aQ.U e0.O).trans ⟨ad.O.mono λb e=>(az b e).2,λ_ _=>rfl,λb bn=>.inl bn⟩);have cf:Hd (eM s.nms n=(N,s.nms++ [n])):=hD (by rw[a0.O];exact Q.O.1);clear cw B;obtain⟨a4,d,av,fv,A,K,bx,bz,a5,a6⟩:=F.O.thW g.O.1 g.O.2.1;obtain⟨b9,pl,E,o,c6,c7,c8,a9⟩:=(F.O.p3 (by decide)).dq k x g.O.2.2.1;have bo:d=b9:=yz (A.symm.trans E);subst bo;have b2:=hD (qG (F.O.p3 (by decide)) cb.O g.O.2.2.1 A o g.O.2.2.2 (N:Int));have a1:=K.I 2;simp[dQ,ptr] at a1;have b1:=hD K;have f:=hD (aI a4 (aI A (aI o (aI a9 (aI a5 a6)))));clear a4 A K bx bz a5 a6 E o c6 c7 c8 a9;go_upto_region 5 with fail
  go_wp2_with (go_at_call 142;refine b2.O.mono ?_;rintro e W8 ⟨rfl,a8,e8,a2⟩;have P:=hD a8;have ba:=hD a2;clear a8 a2 a1;have m:=P.O.J b1.O (λe=>by rw[f.O.1] at e;exact absurd e (by decide));have b6:=m.I 0;have b7:=m.I 1;have e4:=m.fz 0;have e5:=m.fz 1;have b0:=hD m;simp[dQ] at b6 b7;clear m)
  go_end0
  have bk:=ba.O (eN x (N:Int)) rfl rfl rfl;have bb:=(F.O.part (i:=3) P.O).fill3 (bk.mo (kG F.O.tlt (by decide))) (iZ.snoc f.O.2.2.1 _);have S:(L.ps.set k (pl++ [y.heap.size]))[k]?=some (pl++ [y.heap.size]):=bD (gS f.O.2.2.1).1;obtain⟨bf,c1⟩:=bb.setAct (kd':=1) (a:=(k,x.acts.length)) (p:=y.heap.size) g.O.1 g.O.2.1 f.O.2.1 b0.O f.O.2.2.2.2.1 f.O.2.2.2.2.2 S (by show(pl++ [_])[x.acts.length]?=_;rw[<-f.O.2.2.2.1];simp);have bt:cS tag y W8 3 tp=15:=by rw[bJ F.O.tlt tp (by rw[f.O.1];decide)];exact f.O.1
  refine⟨rfl,_,({L with ps:=L.ps.set k (pl++ [y.heap.size])}:cP),?_,(b3.O.trans (aQ.part F.O.tlt (by decide) P.O)).trans (aQ.same (i:=15) (by decide) (c1.mono λb e=>by rw[e];exact bt)),⟨rfl,rfl,rfl,rfl,by show L.n<=L.n+1;omega,by show(L.fn:Int)<=L.fn+1;omega,(by simp only[eE,cf.O,yk,zo,List.length_nil];omega),[],by simp[eE],by simp⟩⟩
  have bp:eE s k n= {{({s with nms:=s.nms++ [n]}:PS) with C:=s.C,ds:=s.ds.set k (eN x (N:Int))} with ths:=s.ths.set k {th with act:=some (k,x.acts.length),kn:=1}}:=by
   unfold eE;rw[PS.dq_eq g.O.2.2.1,PS.th_eq g.O.2.1,cf.O]
  rw[bp];exact bf
end
def gL(G:dx):Prop:=∀j p x,G j=some (p,x)->lH p/\bW p x/\(Lit.int .u64 j).wf=true
theorem vg{p:List ah}(d:gC p):∀(l:List UInt8) (t u:aj),bW p t->bK p t l=some u->bW p u
 | [],t,u,b,a=>by cases a;exact b
 |c :: l,t,u,b,a=>by
  unfold bK at a;split at a
  ·cases a
  ·cases hk:(aS p t)[c.toNat-1]? with
   |none=>rw[hk] at a;cases a
   |some k=>
    rw[hk] at a;exact vg d l k u ((lA d b).2 k (yh hk)) a
section
variable {G:dx}{w w':World}{tag tag':Nat->Nat}{L L':cP}{s s':PS}{n:Nm}{ex:Nm->Prop}{r:aG}
theorem aH.row_ok(a:aH G s ex)(i:gL G)(d:s.T.rw n=some r):∃p x,G n.job=some (p,x)/\bK p x n.M=some r.tk/\vC p s.T n r/\s.progs n.job=some p/\s.prog n.job=p/\lH p/\bW p r.tk/\dh n:=by
 obtain⟨p,x,b,c,g⟩:=(a.t.row n r d).node;obtain⟨f,k,l⟩:=i _ _ _ b;have e:=vg f.ok _ _ _ k c;have j:=a.t.M d;exact⟨p,x,b,c,g,a.progs _ _ _ b,a.prog b,f,e,l,by rw[<-j];exact e.pth⟩
theorem cV.U(b:aX w tag L s)(a:ac w w'):cV w w' tag L s s 0:=⟨tag,L,b.U a,aQ.U a,LK.refl _ _⟩
theorem cV.then{c:World}{b:PS}{d a:Int}(g:aQ w w' tag tag')(k:LK L L' s s' d)(f:cV w' c tag' L' s' b a):cV w c tag L s b (d+a):=by
 obtain⟨m,e,i,j,l⟩:=f;exact⟨m,e,i,g.trans j,k.trans l⟩
theorem cV.mo{d a:Int}(c:cV w w' tag L s s' d)(i:d<=a):cV w w' tag L s s' a:=by
 obtain⟨j,b,e,f,g⟩:=c;exact⟨j,b,e,f,g.mo i⟩
theorem qW(d:aX w tag L s)(j:aH G s ex)(v:gL G){k tp:Nat}{th:Th}(E:L.tps[k]?=some tp)(B:s.ths[k]?=some th)(g:dh n)(A:L.fn<=1000000000):
 Calls Tryz.prog 84 #[ptr L.pb,ptr tp,aV n] w λa w'=>a=.returned (.tuple #[])/\cV w w' tag L s (dX s k n) 1:=by
 by_cases c:∃r,s.T.rw n=some r/\(r.sa=1\/r.sa=4)
 ·obtain⟨r,b,c⟩:=c
  obtain⟨p,x,F,H,i,q,K,t,u,N⟩:=j.row_ok v b;refine wz d E B g b c q t u (λa=>(i.idle (.inl a)).2) (λa=>?_) (λz l P C D y=>?_) A
  ·obtain⟨f,e,_⟩:=i.runs (.inr (.inr a))
   rw[e];simp
  ·obtain⟨_,_,_,f,_,_,_,_,e,_⟩:=j.current C D
   rw[y,z] at e
   cases e
 ·have m:∀r,s.T.rw n=some r->r.sa≠1/\r.sa≠4:=λr b=>⟨λa=>c ⟨r,b,.inl a⟩,λa=>c ⟨r,b,.inr a⟩⟩
  refine(A8 d tp g m).mono ?_;rintro a w' ⟨rfl,o⟩;rw[vF d k tp g m];exact⟨rfl,(cV.U d o).mo (by decide)⟩
theorem jJ(a:aX w tag L s):Calls Tryz.prog 44 #[ptr L.pb] w λc w'=>c=.returned (.bool true)/\w=w':=by
 have b:=(a.p1 (by decide)).2.I 4;simp[bB,ptr] at b;unfold ptr;clear a;go_enter Tryz.func44,Tryz.ntmps44;go_wp2_with fail;go_ret;exact⟨rfl,rfl⟩
end
end
end Go.Proofs.YtmdocplknceilaaGreat
