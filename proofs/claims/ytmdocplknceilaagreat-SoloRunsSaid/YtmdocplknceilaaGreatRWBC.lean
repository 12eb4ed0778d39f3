import Derived.Test.YtmdocplknceilaaGreatRWBA
import Derived.WideKeyEntry
import Derived.Test.YtmdocplknceilaaGreatRWAY
set_option linter.all false
set_option maxRecDepth 100000
set_option maxHeartbeats 4000000
namespace Go.Proofs.YtmdocplknceilaaGreat
section
open Go.RowKit Go.Maps
theorem Bj{P:Program}{w:World}{t k d:TypeId}{b:Nat}{a:Array MapEntry}{c:Nat}(f:Keyed P k)(C:P.underlying t=some (.map k d)){z:Value}(a0:∀u:World,(zeroValue d).run P u=.ok z u)(e:w.heap[b]?=some (.map a c))
 (W:MapKept.Stamped a c) (R:∀x∈a.toList,∃l,keyOf P k x.key=some l) {key:Value} {a1:Lit} (g:keyOf P k key=some a1):
 ∃(v0:Value) (st:Nat) (K:Array MapEntry) (F:Nat),(Instr.mapEntry t (.map (some b)) key).run P w=.ok (.tuple #[v0,.int .i64 (st:Int)]) (ChangeMaps.setBlock w b (.map K F))/\
  ∀(A:World) (val:Value),A.heap[b]?=some (.map K F)->∃H c',(Instr.entryStore t (.map (some b)) (.int .i64 (st:Int)) val).run P A=.ok () (ChangeMaps.setBlock A b (.map H c'))/\(Instr.mapUpdate t (.map (some b)) key val).run P w=.ok () (ChangeMaps.setBlock w b (.map H c')):=by
 obtain⟨a2,Q,_⟩:=W
 rcases f.find w g a.toList R with⟨o,p⟩|⟨j,D,o,p,B⟩
 ·have S:(a.push ⟨key,z,c⟩).toList[a.size]?=some ⟨key,z,c⟩:=by simp
  have T:((a.push ⟨key,z,c⟩).toList.map (·.born)).Nodup:=by
   rw[Yb,yS];refine zy.2 ⟨Q,by simp,λx Y y Z a3=>?_⟩;obtain⟨u,X,rfl⟩:=yL.1 Y;have:=a2 u X;simp at Z;omega
  have m:=WideElems.findIdx_born T S;rw[<-WideElems.findIdx_arr] at m;refine⟨z,c,a.push ⟨key,z,c⟩,c+1,?_,λA val v=>⟨(a.push ⟨key,z,c⟩).modify a.size (λd=>{d with val:=val}),c+1,?_,?_⟩⟩
  ·simp[Instr.mapEntry,run_underlying C,MapKept.run_getObj_map e,f.check w false g,o,a0,MapKept.run_setObj_map _ e,Result.andThen,ChangeMaps.setBlock,goInt]
  ·simp at m
   simp[Instr.entryStore,MapKept.run_getObj_map v,asInt,asIntOf,m,MapKept.run_setObj_map _ v,Result.andThen,ChangeMaps.setBlock]
  ·have E:(a.push ⟨key,z,c⟩).modify a.size (λd=>{d with val:=val})=a.push ⟨key,val,c⟩:=by
    apply Array.ext';rw[zu,Yb,Yb,<-Array.length_toList,WideElems.modify_last]
   rw[E];simp[Instr.mapUpdate,run_underlying C,MapKept.run_getObj_map e,f.check w false g,o,MapKept.run_setObj_map _ e,Result.andThen,ChangeMaps.setBlock]
 ·have N:a[j]?=some D:=by simpa using p
  have V:a.modify j (λd=>{d with key:=key})=a:=by
   apply Array.ext';rw[zu];apply zt;intro i;rw[zG]
   by_cases q:j=i
   ·subst q
    rw[p,<-B];simp
   ·simp[q]
  have m:=WideElems.findIdx_born Q p;rw[<-WideElems.findIdx_arr] at m;refine⟨D.val,D.born,a,c,?_,λA val v=>⟨a.modify j (λd=>{d with val:=val}),c,?_,?_⟩⟩
  ·simp[Instr.mapEntry,run_underlying C,MapKept.run_getObj_map e,f.check w false g,o,N,B,f.stays w g,V,MapKept.run_setObj_map _ e,Result.andThen,ChangeMaps.setBlock,goInt]
  ·simp[Instr.entryStore,MapKept.run_getObj_map v,asInt,asIntOf,m,MapKept.run_setObj_map _ v,Result.andThen,ChangeMaps.setBlock]
  ·have E:a.modify j (λd=>{d with key:=key,val:=val})=a.modify j (λd=>{d with val:=val}):=by
    apply Array.ext';rw[zu,zu];apply zt;intro i;rw[zG,zG]
    by_cases q:j=i
    ·subst q
     rw[p,<-B];simp
    ·simp[q]
   rw[<-E];simp[Instr.mapUpdate,run_underlying C,MapKept.run_getObj_map e,f.check w false g,o,N,B,f.stays w g,MapKept.run_setObj_map _ e,Result.andThen,ChangeMaps.setBlock]
theorem nY{w:World}{b:Nat}{d:Array MapEntry}{c:Nat}{a:Obj}(e:w.heap[b]?=some (.map d c)):aa (λx=>x=b) w (ChangeMaps.setBlock w b a):=
 ⟨rfl,rfl,rfl,by simp[ChangeMaps.setBlock],λk _ f=>ChangeMaps.heap_setBlock_other e a f⟩
theorem aS.entry{P:Program}{w:World}{t k j:TypeId}{b cnt:Nat}{g:Value->Option Value}{key z:Value}{H:Lit}(l:aS P w k b g cnt)(i:Keyed P k)(p:P.underlying t=some (.map k j))(E:∀u:World,(zeroValue j).run P u=.ok z u)(o:keyOf P k key=some H)(D:cnt<maxLen):
 ∃(v0:Value) (st:Nat) (e:World),(Instr.mapEntry t (.map (some b)) key).run P w=.ok (.tuple #[v0,.int .i64 (st:Int)]) e/\aa (λx=>x=b) w e/\
  ∀(a:World) (val:Value),a.heap[b]?=e.heap[b]?->∃f,(Instr.entryStore t (.map (some b)) (.int .i64 (st:Int)) val).run P a=.ok () f/\aS P f k b (iW g key (some val)) (if (g key).isSome then cnt else cnt+1)/\aa (λx=>x=b) a f:=by
 obtain⟨K,⟨R,Q,c,F,W⟩,V⟩:=id l;obtain⟨v0,st,T,N,q,y⟩:=Bj i p E c F.stamped F.keys o;refine⟨v0,st,_,q,nY c,λa val d=>?_⟩;rw[ChangeMaps.heap_setBlock_same c _] at d;obtain⟨S,c',A,B⟩:=y a val d;obtain⟨w',m,C,_⟩:=l.put i p o D (v:=val);rw[B] at m
 cases m
 exact⟨_,A,C.heap (by rw[ChangeMaps.heap_setBlock_same d _,ChangeMaps.heap_setBlock_same c _]),nY d⟩
theorem ls{nms:List Nm}(d:nms.Nodup){n:Nm}{v:Nat}(b:nms[v]?=some n):ja nms n=some (.int .i64 (v:Int))/\eT nms n=(v,nms):=by
 have a:∃v:Nat,nms[v]?=some n:=⟨v,b⟩
 have hv:Classical.choose a=v:=by
  have c:=Classical.choose_spec a;have e:=(gS c)
  have f:=(gS b)
  obtain⟨j,g⟩:=e;obtain⟨k,i⟩:=f;exact(List.getElem_inj d).1 (g.trans i.symm)
 unfold ja eT;rw[dif_pos a,dif_pos a,hv];exact⟨rfl,rfl⟩
theorem nB{nms:List Nm}{n:Nm}(a:¬ ∃v:Nat,nms[v]?=some n):ja nms n=none/\eT nms n=(nms.length,nms++ [n]):=by
 unfold ja eT;rw[dif_neg a,dif_neg a];exact⟨rfl,rfl⟩
theorem Bn{nms:List Nm}{n:Nm}(e:nms.Nodup)(g:¬ ∃v:Nat,nms[v]?=some n):ja (nms++ [n])=ax (ja nms) n (some (.int .i64 (nms.length:Int))):=by
 have f:(nms++ [n]).Nodup:=zy.2 ⟨e,by simp,λa i b j c=>by
  rw[yw.1 j] at c;subst c;exact g (yF i)⟩
 funext m
 by_cases c:m=n
 ·subst c
  rw[ay];exact(ls f (by simp)).1
 ·rw[ag _ _ c]
  by_cases d:∃v:Nat,nms[v]?=some m
  ·obtain⟨v,hv⟩:=d
   rw[(ls e hv).1];exact(ls f (by rw[yi (gS hv).1];exact hv)).1
  ·rw[(nB d).1]
   refine(nB λ⟨v,hv⟩=>?_).1
   rcases gO hv with hv|⟨_,hv⟩
   ·exact d ⟨v,hv⟩
   ·exact c hv
theorem wW(nms:List Nm)(n:Nm):iA (nms++ [n])=λy=>if y=(nms.length:Int) then some (aW n) else iA nms y:=by
 funext y;unfold iA
 by_cases a:y<0
 ·rw[yf a,yb (by omega),yf a]
 ·rw[yb a]
  obtain⟨k,rfl⟩ :∃k:Nat,y=(k:Int):=⟨y.toNat,by omega⟩
  rw[yo]
  by_cases b:k=nms.length
  ·subst b
   rw[yf rfl];simp
  ·rw[yb (λc=>b (Int.ofNat_inj.1 c)),yb a]
   by_cases d:k<nms.length
   ·rw[yi d]
   ·rw[zv (by simp;omega),zv (by omega)]
section
variable {w w':World}{tag tag':Nat->Nat}{L L':cN}{s s':PS}{n:Nm}
theorem aX.thW(b:aY w tag L s){k tp:Nat}{th:Th}(e:L.tps[k]?=some tp)(c:s.ths[k]?=some th):tag tp=15/\∃d av fv,L.dp[k]?=some d/\ae w tp 131 (dQ av th.kn d th.cur fv)/\(th.act=none->av=.pointer none)/\
 (∀j i,th.act=some (j,i)->∃pl p,L.ps[j]?=some pl/\pl[i]?=some p/\av=ptr p)/\(th.run=true->fv=ptr (L.fp th.cur))/\(th.run=false->fv=.pointer none):=by
 obtain⟨l,d,av,fv,a,f,g⟩:=(b.p15 (by decide)).2.1 k th c;rw[e] at a
 cases a
 exact⟨f,d,av,fv,g⟩
theorem E5(av a:Value)(kd kd' d:Nat)(cur:Nm)(fv:Value):((dQ av kd d cur fv).setIfInBounds 0 a).setIfInBounds 1 (.int .i64 (kd':Int))=dQ a kd' d cur fv:=by simp[dQ]
theorem aX.setAct{k tp d kd':Nat}{th:Th}{a:Nat×Nat}{pl:List Nat}{p:Nat}(g:aY w tag L s)(x:L.tps[k]?=some tp)(t:s.ths[k]?=some th){av fv:Value}(q:L.dp[k]?=some d)(o:ae w tp 131 (dQ av th.kn d th.cur fv))(u:th.run=true->fv=ptr (L.fp th.cur))(v:th.run=false->fv=.pointer none)
 (l:L.ps[a.1]?=some pl) (m:pl[a.2]?=some p):aY ((w.setCell ⟨tp,0,none⟩ (.pointer (some ⟨p,0,none⟩))).setCell ⟨tp,1,none⟩ (.int .i64 (kd':Int))) tag L {s with ths:=s.ths.set k {th with act:=some a,kn:=kd'}}/\aa (λb=>b=tp) w ((w.setCell ⟨tp,0,none⟩ (.pointer (some ⟨p,0,none⟩))).setCell ⟨tp,1,none⟩ (.int .i64 (kd':Int))):=by
 have e:=(o.s_ 0 (.pointer (some ⟨p,0,none⟩))).s_ 1 (.int .i64 (kd':Int));rw[E5] at e;have f:aa (λb=>b=tp) w ((w.setCell ⟨tp,0,none⟩ (.pointer (some ⟨p,0,none⟩))).setCell ⟨tp,1,none⟩ (.int .i64 (kd':Int))):=(af _ tp 0 _).trans (af _ tp 1 _);exact⟨aX.thread (k:=k) (th:=th) {th with act:=some a,kn:=kd'} g t x q f e (λc=>by cases c) (λj i c=>by cases c;exact⟨pl,p,l,m,rfl⟩) u v,f⟩
theorem sI(ai:aY w tag L s)(cs:fI s.C s.ds){k tp:Nat}{th:Th}{x:aT}(d8:L.tps[k]?=some tp)(d1:s.ths[k]?=some th)(bp:dE n)(d4:s.nms.Nodup)(d9:s.ds[k]?=some x)(cB:own x.acts x.on=none)(d6:s.nms.length<=1000000000):
 Calls Tryz.prog 93 #[ptr L.pb,ptr tp,aW n] w λe w'=>e=.returned (.tuple #[])/\cP w w' tag L s (eJ s k n) 1:=by
 obtain⟨l,an⟩:=eX (w.alloc (.cells #[.int .u64 n.job,.string (sB n.M)] 58));have bz:ac w l:=by rw[an];exact(aa.refl _ w).alloc _
 obtain⟨R,aw⟩:=eX w.heap.size;have b5:ae l R 58 #[.int .u64 n.job,.string (sB n.M)]:=by rw[an,aw];exact bN
 have al:=ai.U bz;have d7:=(al.p1 (by decide)).2;obtain⟨eb,d2⟩:=bp.key
 have T:∀q,(Instr.lookup 117 (.map (some L.nb)) (.agg #[.int .u64 n.job,.string (sB n.M)]) true).run Tryz.prog (l.drewN q)=.ok (.tuple #[(ja s.nms n).getD (.int .i64 0),.bool (ja s.nms n).isSome]) (l.drewN q):=λq=>by
  have:=(((al.p9 (by decide)).2).heap (w':=l.drewN q) rfl).look2 (t:=117) ix Tryz.underlying117 (z:=.int .i64 0) (by kernel_rfl) d2;rw[iP] at this;exact this
 have b8:=d7.I 7;simp[bJ] at b8;obtain⟨dd,dk⟩:=b5.gE2;have cf:=hD an.symm;have dn:=hD aw;have cb:=hD bp;have ea:=hD ai;have c8:=hD al;have dl:=hD b5;have cd:=hD bz;have g:=hD (aI d8 (aI d1 (aI d9 cB)));have c9:=hD cs;have Z:=hD (aI d4 d6);have d0:tag R=0:=gM ai.tlt (by rw[aw];exact lR);have dp:=hD d0;unfold ptr aW fe;clear ai bp bz an aw b5 al d7 d2 d8 d1 d9 cB cs d4 d6 d0;go_enter Tryz.func93,Tryz.ntmps93;go_upto_region 1 with fail;rw[cf.O,<-dn.O];clear cf
 by_cases ar:∃v:Nat,s.nms[v]?=some n
 ·obtain⟨v,hv⟩:=ar
  obtain⟨X,a7⟩:=ls Z.O.1 hv;rw[X] at T;change ∀q,(Instr.lookup 117 (.map (some L.nb)) (.agg #[.int .u64 n.job,.string (sB n.M)]) true).run Tryz.prog (l.drewN q)=.ok (.tuple #[.int .i64 (v:Int),.bool true]) (l.drewN q) at T;have Q:=hD (aI hv a7);clear hv X a7
  go_quiet (fail)
  obtain⟨c,H⟩:=eX (l.drewN nq);rw[<-H];have D:ac l c:=by rw[H];exact oR.drewN nq
  have j:=hD (c8.O.U D);have b3:Hd (aQ w c tag tag):=hD (aQ.U (cd.O.trans D));clear T b8 dd dk H D;obtain⟨a4,d,av,fv,A,K,bv,bx,a5,a6⟩:=j.O.thW g.O.1 g.O.2.1;obtain⟨b9,pl,E,o,c5,c6,c7,a9⟩:=(j.O.p3 (by decide)).dq k x g.O.2.2.1;have bn:d=b9:=yz (A.symm.trans E);subst bn;have b2:=hD (qV (j.O.p3 (by decide)) c9.O g.O.2.2.1 A o g.O.2.2.2 (v:Int));have a1:=K.I 2;simp[dQ,ptr] at a1;have b1:=hD K;have f:=hD (aI a4 (aI A (aI o (aI a9 (aI a5 a6)))));clear a4 A K bv bx a5 a6 E o c5 c6 c7 a9;go_upto_region 5 with fail
  go_wp2_with (go_at_call 142;refine b2.O.mono ?_;rintro e W8 ⟨rfl,a8,e6,a2⟩;have P:=hD a8;have ba:=hD a2;clear a8 a2 a1;have m:=P.O.J b1.O (λe=>by rw[f.O.1] at e;exact absurd e (by decide));have b6:=m.I 0;have b7:=m.I 1;have e2:=m.fz 0;have e3:=m.fz 1;have b0:=hD m;simp[dQ] at b6 b7;clear m)
  go_end0
  have bf:=ba.O (eU x (v:Int)) rfl rfl rfl;have bb:=(j.O.part (i:=3) P.O).fill3 (bf.mo (kK j.O.tlt (by decide))) (je.snoc f.O.2.2.1 _);have S:(L.ps.set k (pl++ [c.heap.size]))[k]?=some (pl++ [c.heap.size]):=bH (gS f.O.2.2.1).1;obtain⟨bc,c0⟩:=bb.setAct (kd':=1) (a:=(k,x.acts.length)) (p:=c.heap.size) g.O.1 g.O.2.1 f.O.2.1 b0.O f.O.2.2.2.2.1 f.O.2.2.2.2.2 S (by show(pl++ [_])[x.acts.length]?=_;rw[<-f.O.2.2.2.1];simp);have br:cS tag c W8 3 tp=15:=by rw[bL j.O.tlt tp (by rw[f.O.1];decide)];exact f.O.1
  refine⟨rfl,_,({L with ps:=L.ps.set k (pl++ [c.heap.size])}:cN),?_,(b3.O.trans (aQ.part j.O.tlt (by decide) P.O)).trans (aQ.same (i:=15) (by decide) (c0.mono λb e=>by rw[e];exact br)),⟨rfl,rfl,rfl,rfl,by show L.n<=L.n+1;omega,by show(L.fn:Int)<=L.fn+1;omega,(by simp only[eJ,Q.O.2];omega),[],by simp[eJ],by simp⟩⟩
  have bo:eJ s k n= {{s with C:=s.C,ds:=s.ds.set k (eU x (v:Int))} with ths:=s.ths.set k {th with act:=some (k,x.acts.length),kn:=1}}:=by
   unfold eJ;rw[PS.dq_eq g.O.2.2.1,PS.th_eq g.O.2.1,Q.O.2]
  rw[bo];exact bc
 ·obtain⟨X,a7⟩:=nB ar
  rw[X] at T;change ∀q,(Instr.lookup 117 (.map (some L.nb)) (.agg #[.int .u64 n.job,.string (sB n.M)]) true).run Tryz.prog (l.drewN q)=.ok (.tuple #[.int .i64 0,.bool false]) (l.drewN q) at T;have Q:=hD (aI a7 (aI ar X));clear ar X a7
  go_quiet (fail)
  obtain⟨c,H⟩:=eX (l.drewN nq);rw[<-H];have D:ac l c:=by rw[H];exact oR.drewN nq
  have am:=c8.O.U D;have j:=hD am;have dw:=hD (cd.O.trans D);have cw:=D.J dl.O nF;have dm:=hD cw;have V:=(am.p1 (by decide)).2;clear T b8 dd dk H D;have cm:=V.I 8;simp[bJ] at cm;have S:=λe9=>(am.p10 (by decide)).2.1.len (t:=118) Tryz.underlying118 e9
  obtain⟨N,bq⟩:=eX s.nms.length;rw[<-bq] at S;have a0:=hD bq;clear am V cw bq;go_upto_region 4 with fail;clear S cm;have d5:(Lit.int .i64 (N:Int)).wf=true:=by rw[a0.O];have:=Z.O.2;unfold Lit.wf;rw[zm,zR,zR];exact⟨Ya (by decide) (zD _),Ya (Int.ofNat_le.2 this) (by decide)⟩
  obtain⟨ec,d3⟩:=cb.O.key;obtain⟨v0,st,ck,cn,c1,cq⟩:=(((j.O.p9 (by decide)).2).heap (w':=c.drew) rfl).entry (t:=117) ix Tryz.underlying117 (z:=.int .i64 0) (λu=>by kernel_rfl) d3 (by have:=Z.O.2;unfold maxLen;omega);obtain⟨dz,e0,db,c2⟩:=cq ck (.int .i64 (N:Int)) rfl;have bt:=(j.O.p9 (by decide)).1;have aE:=(j.O.p10 (by decide)).1;have a3:L.mm≠L.nb:=λe=>by rw[e,bt] at aE;exact absurd aE (by decide)
  obtain⟨v1,e8,b4,e1,c3,cr⟩:=(((((j.O.p10 (by decide)).2.1).heap (w':=c.drew) rfl).only c1 a3).only c2 a3).entry (t:=118) ub Tryz.underlying118 (z:=.agg #[.int .u64 0,.string ⟨#[]⟩]) (λu=>by kernel_rfl) (Maps.keyOf_int_mk Tryz.underlying2 d5) (by have:=Z.O.2;unfold maxLen;omega);obtain⟨y,cp,da,c4⟩:=cr b4 (aW n) rfl;have cg:Hd (aa (λb=>b=L.nb\/b=L.mm) c ck):=hD ((aa.drew (aa.refl _ c)).trans (c1.mono λ_ e=>.inl e));have ch:Hd (aa (λb=>b=L.nb\/b=L.mm) c dz):=hD (cg.O.trans (c2.mono λ_ e=>.inl e));have ci:Hd (aa (λb=>b=L.nb\/b=L.mm) c b4):=hD (ch.O.trans (c3.mono λ_ e=>.inr e));have ad:Hd (aa (λb=>b=L.nb\/b=L.mm) c y):=hD (ci.O.trans (c4.mono λ_ e=>.inr e));have V:=(j.O.p1 (by decide))
  have B:Hd (∀W,aa (λb=>b=L.nb\/b=L.mm) c W->aa (λb=>b=L.nb\/b=L.mm) c W/\W.cell? ⟨L.pb,7,none⟩=some (.map (some L.nb))/\W.cell? ⟨L.pb,8,none⟩=some (.map (some L.mm))/\W.cell? ⟨R,0,none⟩=some (.int .u64 n.job)/\W.cell? ⟨R,1,none⟩=some (.string (sB n.M))):=hD λW bk=>by
   have E:=bk.J V.2 (λe=>by rcases e with e|e<;>have:=V.1<;>rw[e] at this<;>simp_all);have o:=bk.J dm.O (λe=>by rcases e with e|e<;>have:=dp.O<;>rw[e] at this<;>simp_all);exact⟨bk,E.I 7,E.I 8,o.I 0,o.I 1⟩
  have e4:=B.O c oR
  have dv:Hd (aS Tryz.prog y 58 L.nb (eE (ja (s.nms++ [n]))) (s.nms++ [n]).length):=hD (by
   have q:=(db.only c3 (λe=>a3 e.symm)).only c4 (λe=>a3 e.symm);rw[mQ,iP,Q.O.2.2,a0.O] at q;rw[Bn Z.O.1 Q.O.2.1]
   simpa using q)
  have dr:Hd (aS Tryz.prog y 2 L.mm (gI .i64 (iA (s.nms++ [n]))) (s.nms++ [n]).length):=hD (by
   have q:=da;rw[AJ,nh] at q;have e5:iA s.nms (N:Int)=none:=by unfold iA;rw[yb (by omega),a0.O];simp
   rw[e5] at q;rw[wW,<-a0.O]
   simpa using q)
  change (Instr.mapEntry 117 (.map (some L.nb)) (.agg #[.int .u64 n.job,.string (sB n.M)])).run Tryz.prog c.drew=_ at cn;change (Instr.entryStore 118 (.map (some L.mm)) (.int .i64 (e8:Int)) (.agg #[.int .u64 n.job,.string (sB n.M)])).run Tryz.prog b4=_ at cp;clear d3 c1 cq db c2 c3 cr da c4 V a3 d5;have ab:=hD (aI bt aE);clear bt aE
  go_region_held3 (λW=>aa (λb=>b=L.nb\/b=L.mm) c W/\W.cell? ⟨L.pb,7,none⟩=some (.map (some L.nb))/\W.cell? ⟨L.pb,8,none⟩=some (.map (some L.mm))/\W.cell? ⟨R,0,none⟩=some (.int .u64 n.job)/\W.cell? ⟨R,1,none⟩=some (.string (sB n.M)))
   (with_reducible first|exact B.O _ cg.O|exact B.O _ ch.O|exact B.O _ ci.O|exact B.O _ ad.O|exact B.O _ (aa.drew oR)|exact B.O _ oR|fail) (fail)
  clear e4 cn e0 e1 cp
  have az:∀b,b=L.nb\/b=L.mm->tag b∈[9,10]/\tag b≠0:=λb e=>by
   rcases e with e|e
   ·rw[e,ab.O.1];decide
   ·rw[e,ab.O.2];decide
  have cv:=j.O.keepL (tag':=tag) (Y:=[9,10]) ad.O (λb e=>(az b e).1) (λ_ _=>rfl) (λb bm=>lL (j.O.tlt b bm) ad.O.size);have F:=hD (cv.fillN ⟨ab.O.1,dv.O⟩ ⟨ab.O.2,dr.O,λe7 az=>(yH.1 az).elim ((j.O.p10 (by decide)).2.2 e7) (λe=>by rw[yw.1 e];exact cb.O)⟩);have b3:Hd (aQ w y tag tag):=hD ((aQ.U dw.O).trans ⟨ad.O.mono λb e=>(az b e).2,λ_ _=>rfl,λb bm=>.inl bm⟩);have ce:Hd (eT s.nms n=(N,s.nms++ [n])):=hD (by rw[a0.O];exact Q.O.1);clear cv B;obtain⟨a4,d,av,fv,A,K,bv,bx,a5,a6⟩:=F.O.thW g.O.1 g.O.2.1;obtain⟨b9,pl,E,o,c5,c6,c7,a9⟩:=(F.O.p3 (by decide)).dq k x g.O.2.2.1;have bn:d=b9:=yz (A.symm.trans E);subst bn;have b2:=hD (qV (F.O.p3 (by decide)) c9.O g.O.2.2.1 A o g.O.2.2.2 (N:Int));have a1:=K.I 2;simp[dQ,ptr] at a1;have b1:=hD K;have f:=hD (aI a4 (aI A (aI o (aI a9 (aI a5 a6)))));clear a4 A K bv bx a5 a6 E o c5 c6 c7 a9;go_upto_region 5 with fail
  go_wp2_with (go_at_call 142;refine b2.O.mono ?_;rintro e W8 ⟨rfl,a8,e6,a2⟩;have P:=hD a8;have ba:=hD a2;clear a8 a2 a1;have m:=P.O.J b1.O (λe=>by rw[f.O.1] at e;exact absurd e (by decide));have b6:=m.I 0;have b7:=m.I 1;have e2:=m.fz 0;have e3:=m.fz 1;have b0:=hD m;simp[dQ] at b6 b7;clear m)
  go_end0
  have bf:=ba.O (eU x (N:Int)) rfl rfl rfl;have bb:=(F.O.part (i:=3) P.O).fill3 (bf.mo (kK F.O.tlt (by decide))) (je.snoc f.O.2.2.1 _);have S:(L.ps.set k (pl++ [y.heap.size]))[k]?=some (pl++ [y.heap.size]):=bH (gS f.O.2.2.1).1;obtain⟨bc,c0⟩:=bb.setAct (kd':=1) (a:=(k,x.acts.length)) (p:=y.heap.size) g.O.1 g.O.2.1 f.O.2.1 b0.O f.O.2.2.2.2.1 f.O.2.2.2.2.2 S (by show(pl++ [_])[x.acts.length]?=_;rw[<-f.O.2.2.2.1];simp);have br:cS tag y W8 3 tp=15:=by rw[bL F.O.tlt tp (by rw[f.O.1];decide)];exact f.O.1
  refine⟨rfl,_,({L with ps:=L.ps.set k (pl++ [y.heap.size])}:cN),?_,(b3.O.trans (aQ.part F.O.tlt (by decide) P.O)).trans (aQ.same (i:=15) (by decide) (c0.mono λb e=>by rw[e];exact br)),⟨rfl,rfl,rfl,rfl,by show L.n<=L.n+1;omega,by show(L.fn:Int)<=L.fn+1;omega,(by simp only[eJ,ce.O,yk,zo,List.length_nil];omega),[],by simp[eJ],by simp⟩⟩
  have bo:eJ s k n= {{({s with nms:=s.nms++ [n]}:PS) with C:=s.C,ds:=s.ds.set k (eU x (N:Int))} with ths:=s.ths.set k {th with act:=some (k,x.acts.length),kn:=1}}:=by
   unfold eJ;rw[PS.dq_eq g.O.2.2.1,PS.th_eq g.O.2.1,ce.O]
  rw[bo];exact bc
end
def iN(G:dg):Prop:=∀j p x,G j=some (p,x)->mY p/\cC p x/\(Lit.int .u64 j).wf=true
theorem vG{p:List ah}(d:gH p):∀(l:List UInt8) (t u:aj),cC p t->bM p t l=some u->cC p u
 | [],t,u,b,a=>by cases a;exact b
 |c :: l,t,u,b,a=>by
  unfold bM at a;split at a
  ·cases a
  ·cases hk:(aR p t)[c.toNat-1]? with
   |none=>rw[hk] at a;cases a
   |some k=>
    rw[hk] at a;exact vG d l k u ((lF d b).2 k (yh hk)) a
section
variable {G:dg}{w w':World}{tag tag':Nat->Nat}{L L':cN}{s s':PS}{n:Nm}{ex:Nm->Prop}{r:aG}
theorem aK.row_ok(a:aK G s ex)(i:iN G)(d:s.T.rw n=some r):∃p x,G n.job=some (p,x)/\bM p x n.M=some r.tk/\wj p s.T n r/\s.progs n.job=some p/\s.prog n.job=p/\mY p/\cC p r.tk/\dE n:=by
 obtain⟨p,x,b,c,g⟩:=(a.t.row n r d).node;obtain⟨f,k,l⟩:=i _ _ _ b;have e:=vG f.ok _ _ _ k c;have j:=a.t.M d;exact⟨p,x,b,c,g,a.progs _ _ _ b,a.prog b,f,e,l,by rw[<-j];exact e.pth⟩
theorem cP.U(b:aY w tag L s)(a:ac w w'):cP w w' tag L s s 0:=⟨tag,L,b.U a,aQ.U a,LK.refl _ _⟩
theorem cP.then{c:World}{b:PS}{d a:Int}(g:aQ w w' tag tag')(k:LK L L' s s' d)(f:cP w' c tag' L' s' b a):cP w c tag L s b (d+a):=by
 obtain⟨m,e,i,j,l⟩:=f;exact⟨m,e,i,g.trans j,k.trans l⟩
theorem cP.mo{d a:Int}(c:cP w w' tag L s s' d)(i:d<=a):cP w w' tag L s s' a:=by
 obtain⟨j,b,e,f,g⟩:=c;exact⟨j,b,e,f,g.mo i⟩
theorem rx(d:aY w tag L s)(j:aK G s ex)(v:iN G){k tp:Nat}{th:Th}(E:L.tps[k]?=some tp)(B:s.ths[k]?=some th)(g:dE n)(A:L.fn<=1000000000):
 Calls Tryz.prog 84 #[ptr L.pb,ptr tp,aW n] w λa w'=>a=.returned (.tuple #[])/\cP w w' tag L s (dX s k n) 1:=by
 by_cases c:∃r,s.T.rw n=some r/\(r.sa=1\/r.sa=4)
 ·obtain⟨r,b,c⟩:=c
  obtain⟨p,x,F,H,i,q,K,t,u,N⟩:=j.row_ok v b;refine xc d E B g b c q t u (λa=>(i.idle (.inl a)).2) (λa=>?_) (λz l P C D y=>?_) A
  ·obtain⟨f,e,_⟩:=i.runs (.inr (.inr a))
   rw[e];simp
  ·obtain⟨_,_,_,f,_,_,_,_,e,_⟩:=j.current C D
   rw[y,z] at e
   cases e
 ·have m:∀r,s.T.rw n=some r->r.sa≠1/\r.sa≠4:=λr b=>⟨λa=>c ⟨r,b,.inl a⟩,λa=>c ⟨r,b,.inr a⟩⟩
  refine(BB d tp g m).mono ?_;rintro a w' ⟨rfl,o⟩;rw[ww d k tp g m];exact⟨rfl,(cP.U d o).mo (by decide)⟩
theorem kD(a:aY w tag L s):Calls Tryz.prog 44 #[ptr L.pb] w λc w'=>c=.returned (.bool true)/\w=w':=by
 have b:=(a.p1 (by decide)).2.I 4;simp[bJ,ptr] at b;unfold ptr;clear a;go_enter Tryz.func44,Tryz.ntmps44;go_wp2_with fail;go_ret;exact⟨rfl,rfl⟩
end
structure kR(L:cN)(s:PS):Prop where
 dq:∀x∈s.ds,x.P<=10000/\x.N<=20000
 c:s.C.length<=45000
 n:L.n+3<=4611686018427387904
 fn:L.fn<=1000000000
 nm:s.nms.length<=1000000000
 dn:L.dn.length<=1000000
 th:s.ths.length<=1000
def FR(w w':World)(tag:Nat->Nat)(L:cN)(s:PS)(k draw:Nat)(e:Ending):Prop:=∃b s',e=.returned (.bool b)/\dt s k draw s'/\cP w w' tag L s s' 4
theorem Fh(a:aC):cnt a<=1/\0<=cnt a:=by
 unfold cnt;split<;>omega
theorem DT(av:Value)(kd d:Nat)(cur:Nm)(fv:Value):((dQ av kd d cur fv).setIfInBounds 0 (.pointer none)).setIfInBounds 1 (.int .i64 0)=dQ (.pointer none) 0 d cur fv:=by simp[dQ]
theorem xH(b k:Nat){a:Nat}(d:1<a)(e:a<=1000)(g:k<a)(f:b<4294967296):
 wrap64 (1+wrap64 ((b:Int) % ((a:Int)-1)))=((1+b % (a-1):Nat):Int)/\wrap64 ((k:Int)+((1+b % (a-1):Nat):Int))=((k+(1+b % (a-1)):Nat):Int)/\((k+(1+b % (a-1)):Nat):Int) % (a:Int)=(((k+(1+b % (a-1))) % a:Nat):Int):=by
 have i:b % (a-1)<a-1:=Yj _ (by omega);have c:((b:Int) % ((a:Int)-1))=((b % (a-1):Nat):Int):=by rw[Int.natCast_emod];congr 1;omega
 rw[c];generalize b % (a-1)=z at*;refine⟨?_,?_,(Int.natCast_emod _ _).symm⟩<;>unfold wrap64<;>omega
theorem DO(b k:Nat){a:Nat}(e:1<a)(f:k<a):(k+(1+b % (a-1))) % a<a/\(k+(1+b % (a-1))) % a≠k:=by
 have g:b % (a-1)<a-1:=Yj _ (by omega);generalize b % (a-1)=z at*;refine⟨Yj _ (by omega),λc=>?_⟩
 by_cases d:k+(1+z)<a
 ·rw[Nat.mod_eq_of_lt d] at c;omega
 ·rw[Nat.mod_eq_sub_mod (by omega),Nat.mod_eq_of_lt (by omega)] at c;omega
section
variable {G:dg}{w w':World}{tag tag':Nat->Nat}{L L':cN}{s s':PS}{n:Nm}{r:aG}
theorem By(cr:aY w tag L s)(Z:aK G s (λ_=>False))(gm:iN G)(c0:kR L s){k tp j i:Nat}{th:Th}(fd:L.tps[k]?=some tp)(an:s.ths[k]?=some th)(c2:th.act=some (j,i))(Q:Nat)(gr:Q<4294967296):
 Calls Tryz.prog 45 #[ptr L.pb,ptr tp,.int .i64 (k:Int),.int .u32 (Q:Int)] w λe w'=>FR w w' tag L s k Q e:=by
 obtain⟨x,a,aE,c3,b9,hV⟩:=(Z.th k th an).act j i c2;obtain⟨L',ws',dm,ea,kk,_⟩:=Bi Z.many aE c3 b9;obtain⟨y,dk⟩:=eX (⟨x.d,ws',x.acts.set i (pstep x.d s.C a).a,x.on,L',x.own+(((pstep x.d s.C a).C.length:Int)-s.C.length),x.P,x.c0⟩ :aT);rw[<-dk] at dm;obtain⟨S,c6⟩:=eX ({s with C:=(pstep x.d s.C a).C,ds:=s.ds.set j y}:PS);have ej:pi s j i x a S:=⟨aE,c3,L',ws',by rw[c6,dk],by rw[c6];exact dm,ea,kk⟩
 obtain⟨h3,d,av,fv,h9,fm,i3,ha,hb,hd⟩:=cr.thW fd an;obtain⟨pl,p,dq,hf,rfl⟩:=ha j i c2;have fk:=c0.dq x (yh aE);have c5:=Z.kinds x (yh aE) a (yh c3);have g0:=hD (wD (cr.p3 (by decide)) Z.many aE c3 b9 dq hf fk.1 fk.2 c0.c c0.n);have bv:=fm.I 0;simp[dQ,ptr] at bv;have h2:S.th k=th:=by rw[c6];exact PS.th_eq an
 have f9:s.th k=th:=PS.th_eq an
 have fa:∀s',(if (pstep x.d s.C a).what=0 then s'=S else s'=jg S k Q (pstep x.d s.C a).what (pstep x.d s.C a).val)->dt s k Q s':=λs' e=>by
  unfold dt;rw[f9,c2];exact⟨x,a,S,ej,e⟩
 have er:=λe=>Z.dend an c2 ej e
 have h6:(pstep x.d s.C a).what=2->(pstep x.d s.C a).val∈x.L:=λe=>by
  rcases ea with c|⟨_,c|c|c|c|c⟩
  ·omega
  ·omega
  ·rw[c.2.2];simp
  ·omega
  ·rw[c.2.2];simp
  ·omega
 have ff:=λe=>Z.vals x (yh aE) _ (h6 e)
 obtain⟨wh,fj⟩:=eX ((pstep x.d s.C a).what);obtain⟨val,h7⟩ :∃v,v=(pstep x.d s.C a).val:=⟨_,rfl⟩
 rw[<-fj,<-h7] at g0 fa ff;rw[<-fj] at er;have e7:Hd (y.d=x.d/\y.acts=x.acts.set i (pstep x.d s.C a).a/\y.on=x.on):=hD (by rw[dk];exact⟨rfl,rfl,rfl⟩);have cm:=hD cr;have bq:=hD c6;have fx:=hD fa;have hv:=hD er;have hI:=hD ff;have a7:=hD (aI fd (aI an (aI h2 f9)));have hz:=hD fm;have a1:=hD (aI h3 (aI h9 (aI hb hd)));have ck:=hD c0;have ft:=hD gm;have hF:=hD Z;have hu:=hD gr;unfold ptr;clear cr Z gm c0 fd an c2 gr aE c3 b9 hV dm ea kk dk c6 ej h3 h9 fm i3 ha hb hd dq hf fk c5 h2 f9 fa er h6 ff fj h7;go_enter Tryz.func45,Tryz.ntmps45
 go_upto_region 2 with(go_at_call 83;refine g0.O.mono ?_;rintro e b6 ⟨rfl,c9,hi,g9⟩)
 have jd:=hD c9;have gf:=g9 y e7.O.1 e7.O.2.1 e7.O.2.2
 have eg:aY b6 (cS tag w b6 3) {L with n:=L.n+cnt a,v:=hi} S:=by
  have:=(cm.O.part (i:=3) c9).fill3 (ps':=L.ps) (gf.mo (kK cm.O.tlt (by decide))) (je.refl _);rw[bq.O];exact this
 obtain⟨u,d8⟩ :∃t,t=cS tag w b6 3:=⟨_,rfl⟩
 rw[<-d8] at eg;have e2:=hD eg;have g3:Hd (aQ w b6 tag u):=hD (by rw[d8];exact aQ.part cm.O.tlt (by decide) c9);have b2:Hd (u tp=15):=hD (by rw[d8,bL cm.O.tlt tp (by rw[a1.O.1];decide)];exact a1.O.1);have g5:=c9.J hz.O (λe=>by rw[a1.O.1] at e;exact absurd e (by decide));have bp:=hD g5;obtain⟨f,cv⟩:=eX ({L with n:=L.n+cnt a,v:=hi}:cN)
 have g1:Hd (LK L f s S 1):=hD (by
  rw[cv,bq.O];have:=(Fh a).1;exact⟨rfl,rfl,rfl,rfl,by show L.n+cnt a<=L.n+1;omega,by show(L.fn:Int)<=L.fn+1;omega,by show(s.nms.length:Int)<=s.nms.length+1;omega,[],by simp,by simp⟩)
 rw[<-cv] at e2;have E:Hd (f.pb=L.pb/\f.tps=L.tps/\f.dp=L.dp/\f.fp=L.fp/\f.fn=L.fn):=hD (by rw[cv];exact⟨rfl,rfl,rfl,rfl,rfl⟩);clear c9 g9 gf eg d8 bv g5 cv
 by_cases c7:wh=0
 ·subst c7
  go_wp2_with fail;go_ret;exact⟨true,S,rfl,fx.O S (by simp),u,f,e2.O,g3.O,g1.O.mo (by decide)⟩
 ·obtain⟨cd,db⟩:=eX ((wh:Int):Int)
  rw[<-db];have ab:(cd==0)=false:=bF (by rw[db];exact λe=>c7 (Int.ofNat_eq_zero.1 e));obtain⟨kd,c5⟩:=eX ((th.kn:Int):Int);have bv:=bp.O.I 0;have bx:=bp.O.I 1;simp[dQ,ptr,<-c5] at bv bx;have ec:=bp.O.fz 0;have ee:=bp.O.fz 1;go_upto_region 7 with fail;obtain⟨m,cw⟩:=eX ((b6.setCell ⟨tp,0,none⟩ (.pointer none)).setCell ⟨tp,1,none⟩ (.int .i64 0));rw[<-cw];obtain⟨l,az⟩:=eX (S.setTh k {th with act:=none,kn:=0})
  have e9:ae m tp 131 (dQ (.pointer none) 0 d th.cur fv):=by
   have:=(bp.O.s_ 0 (.pointer none)).s_ 1 (.int .i64 0);rw[DT,<-cw] at this;exact this
  have fo:aa (λb=>b=tp) b6 m:=by rw[cw];exact(af _ tp 0 _).trans (af _ tp 1 _)
  have es:S.ths[k]?=some th:=by rw[bq.O];exact a7.O.2.1
  have ge:aY m u f l:=by
   rw[az];exact aX.thread (k:=k) (th:=th) (av:=.pointer none) (fv:=fv) {th with act:=none,kn:=0} e2.O es (by rw[E.O.2.1];exact a7.O.1) (by rw[E.O.2.2.1];exact a1.O.2.1) fo e9 (λ_=>rfl) (λj i e=>by cases e) (by rw[E.O.2.2.2.1];exact a1.O.2.2.1) a1.O.2.2.2
  have D:=hD ge;have b5:Hd (aQ w m tag u):=hD (g3.O.trans (aQ.same (i:=15) (by decide) (fo.mono λb e=>by rw[e];exact b2.O)))
  have b3:Hd (LK L f s l 1):=hD (by
   rw[az];obtain⟨X,T,ce,cf,cg,ai,ch,ci⟩:=g1.O;exact⟨X,T,ce,cf,cg,ai,ch,ci⟩)
  have gu:l.ths[k]?=some {th with act:=none,kn:=0}:=by rw[az];exact bH (gS es).1
  obtain⟨ek,f3⟩:=hv.O c7;rw[<-az] at ek f3;have e5:=hD ek;have a6:=hD (aI gu (aI f3 db));have hG:=hD az;have hA:=hD c5;have go:∀s',s'=jg S k Q wh val->dt s k Q s':=λs' e=>fx.O s' (by rw[yb c7];exact e)
  have b0:Hd (∀s',s'=(if wh=1 then l else if wh=2 then dX l k (s.nms.getD val.toNat gY) else if th.kn=2/\s.queue≠[] then dX {l with queue:=s.queue.tail} k (s.queue.headD gY) else if th.kn=2/\1<s.ths.length then jr l k ((k+(1+Q % (s.ths.length-1))) % s.ths.length) else l)->dt s k Q s'):=hD λs' e=>by
   refine go s' ?_;rw[e,az];unfold jg;simp only;rw[a7.O.2.2.1,bq.O]
  have iw:=hD c7;have hs:=hD e9;clear cw az e9 fo es ge gu ek f3 go bv bx ec ee ab db c5
  by_cases ab:wh=1
  ·subst ab
   rw[show cd=1 from a6.O.2.2];go_wp2_with fail;go_ret;exact⟨true,l,rfl,b0.O l rfl,u,f,D.O,b5.O,b3.O.mo (by decide)⟩
  ·have hY:(cd==1)=false:=bF (by rw[a6.O.2.2];exact λe=>ab (by omega))
   have R:=(D.O.p1 (by decide)).2;rw[E.O.1] at R;have K:l.nms=s.nms/\l.queue=s.queue/\l.ths.length=s.ths.length/\l.ds.length=s.ds.length:=by rw[hG.O,bq.O];simp[PS.setTh]
   by_cases bk:wh=2
   ·subst bk
    obtain⟨v1,v2⟩:=hI.O rfl;obtain⟨bo,rfl⟩ :∃bo:Nat,val=(bo:Int):=⟨val.toNat,by omega⟩
    obtain⟨B,d4⟩ :∃B,s.nms[bo]?=some B:=⟨s.nms[bo]'(by omega),gG _⟩
    have gA:dE B:=(D.O.p10 (by decide)).2.2 B (by rw[K.1];exact yh d4)
    have h8:(Lit.int .i64 (bo:Int)).wf=true:=by
     have:=ck.O.nm;unfold Lit.wf;rw[zm,zR,zR];exact⟨Ya (by decide) (zD _),Ya (b:=1000000000) (by omega) (by decide)⟩
    have d3:=((D.O.p10 (by decide)).2.1).look (t:=118) ub Tryz.underlying118 (z:=.agg #[.int .u64 0,.string ⟨#[]⟩]) (by kernel_rfl) (Maps.keyOf_int_mk Tryz.underlying2 h8);rw[nh] at d3
    have gD:iA l.nms (bo:Int)=some (aW B):=by
     unfold iA;rw[yb (by omega),yo,K.1,d4];rfl
    rw[gD] at d3;change _=Result.ok (Value.agg #[.int .u64 B.job,.string (sB B.M)]) m at d3;obtain⟨dm,f1⟩:=eX f.mm;rw[<-f1] at d3;have hM:=R.I 8;simp[bJ,<-f1] at hM;have al:=hD (rx (n:=B) D.O e5.O ft.O (by rw[E.O.2.1];exact a7.O.1) a6.O.1 gA (by rw[E.O.2.2.2.2];exact ck.O.fn));rw[E.O.1] at al;unfold ptr aW fe at al;have hB:=hD d4;rw[show cd=2 from a6.O.2.2];clear R K v1 v2 d4 gA h8 gD f1 hY
    go_wp2_with (go_at_call 84;refine al.O.mono ?_;rintro e Y ⟨rfl,fr⟩)
    go_ret;refine⟨true,_,rfl,b0.O _ ?_,(cP.then b5.O b3.O fr).mo (by decide)⟩;rw[yb (by decide)];simp only[yR,yo];rw[kV hB.O]
   ·have j4:(cd==2)=false:=bF (by rw[a6.O.2.2];exact λe=>bk (by omega))
    by_cases V:th.kn=2
    ·have eL:kd=2:=by rw[hA.O,V];rfl
     have d2:(th.kn:Int)=2:=by rw[V];rfl
     rw[d2];obtain⟨da,aw⟩:=D.O.p5 (by decide);obtain⟨ho,g8,a3⟩:=bR aw;obtain⟨F,bc⟩:=eX f.tps.length;rw[<-bc] at a3;have a4:F=s.ths.length:=by rw[bc,(D.O.p15 (by decide)).1,K.2.2.1]
     by_cases a9:s.queue= []
     ·obtain⟨iv,j1,f7⟩ :∃A c,f.qv=.slice A 0 c:=by
       rcases(D.O.p6 (by decide)).1 with⟨e,_⟩|⟨g,o,c,cur,e,_⟩
       ·exact⟨none,0,e⟩
       ·exact⟨_,c,by rw[e,K.2.1,a9];rfl⟩
      have bx:=R.I 1;have a8:=R.I 6;simp[bJ,f7] at a8;have g7:=R.I 3;simp[bJ,a3] at g7
      by_cases bb:1<F
      ·have gB:(1:Int)<(F:Int):=by omega
       have gN:F<=1000:=by rw[a4];exact ck.O.th
       have f0:k<F:=by rw[a4];exact(gS a7.O.2.1).1
       obtain⟨dv,dw,dz⟩:=xH Q k bb gN f0 hu.O;obtain⟨c8,hX⟩:=eX (F-1);have hj:wrap64 ((F:Int)-1)=(c8:Int):=by unfold wrap64;omega
       have ic:(c8:Int) % 4294967296=(c8:Int):=by omega
       have ie:¬(c8:Int)=0:=by omega
       have ih:¬(F:Int)=0:=by omega
       have ii:¬F=0:=by omega
       have ib:=(aU _).trans hj;rw[show((F:Int)-1)=(c8:Int) by omega] at dv;obtain⟨bs,c4⟩:=eX (1+Q % (F-1));obtain⟨q,d7⟩:=eX ((k+bs) % F);rw[<-c4] at dv dw;rw[<-c4,<-d7] at dz;have ar:q<F/\q≠k:=by rw[d7,c4];exact DO Q k bb f0
       obtain⟨a0,d9⟩ :∃t,f.tps[q]?=some t:=⟨f.tps[q]'(by rw[<-bc];exact ar.1),gG _⟩
       obtain⟨ji,h4⟩ :∃t,l.ths[q]?=some t:=⟨l.ths[q]'(by rw[K.2.2.1,<-a4];exact ar.1),gG _⟩
       obtain⟨i7,cp,j0,j2,dr,hg,_⟩:=D.O.thW d9 h4;have h5:a0≠tp:=λe=>ar.2 ((D.O.p15 (by decide)).2.2 q k a0 d9 (by rw[E.O.2.1,e];exact a7.O.1))
       obtain⟨H,hQ⟩ :∃H,ho=some ⟨H,0,none⟩:=by
        rcases di aw with⟨_,e⟩|⟨g,c,e,_⟩
        ·omega
        ·rw[a3] at e
         exact⟨g,by injection e⟩
       subst hQ
       have eq:m.cell? ⟨H,q,none⟩=some (.pointer (some ⟨a0,0,none⟩)):=by
        rw[a3] at aw;have:=World.ownsRow.cells aw (g:=H) rfl q (ptr a0) (by rw[yJ,d9];rfl);rw[bg,yq] at this;exact this
       have gp:u H=5:=da H (by rw[a3];rfl);obtain⟨a5,dd⟩ :∃x,l.ds[q]?=some x:=⟨l.ds[q]'(by rw[K.2.2.2,hF.O.nlen,<-a4];exact ar.1),gG _⟩
       obtain⟨hN,cb,X,T,_,_,_,ai⟩:=(D.O.p3 (by decide)).dq q a5 dd;have hS:cp=hN:=yz (dr.symm.trans X);subst hS;have hH:Hd (∀W,ac m W->Calls Tryz.prog 85 #[.pointer (some ⟨cp,0,none⟩)] W λe w'=>e=.returned (.tuple #[.pointer (some ⟨W.heap.size,0,none⟩),.int .i64 0])/\aa (λb=>u b=3) W w'/\W.heap.size<w'.heap.size/\∀y:aT,y.d=a5.d->y.acts=a5.acts++ [cQ 2 0]->y.on=a5.on->DW w' (λb=>u b=3\/W.heap.size<=b/\b<w'.heap.size) f.m f.n f.v l.C (l.ds.set q y) f.dp (f.ps.set q (cb++ [W.heap.size]))):=hD λW ba=>zu9 ((D.O.U ba).p3 (by decide)) e5.O.many dd dr T
       have h1:u L.pb=1:=by have:=(D.O.p1 (by decide)).1;rw[E.O.1] at this;exact this
       have c1:Hd (∀W,aa (λb=>u b=3\/b=tp) m W->aa (λb=>u b=3\/b=tp) m W/\W.cell? ⟨L.pb,3,none⟩=some (.slice (some ⟨H,0,none⟩) F g8)/\W.cell? ⟨H,q,none⟩=some (.pointer (some ⟨a0,0,none⟩))/\W.cell? ⟨a0,2,none⟩=some (.pointer (some ⟨cp,0,none⟩))):=hD λW ba=>by
        have am:¬(u L.pb=3\/L.pb=tp):=λe=>e.elim (λe=>by omega) (λe=>by rw[e,b2.O] at h1;omega)
        have cq:¬(u H=3\/H=tp):=λe=>e.elim (λe=>by omega) (λe=>by rw[e,b2.O] at gp;omega)
        have b8:¬(u a0=3\/a0=tp):=λe=>e.elim (λe=>by omega) h5
        exact⟨ba,by rw[(ba.J R am).I 3];simp[bJ,a3],(ba.I (p:=⟨H,q,none⟩) (block_lt_of_cell eq) cq).trans eq,by rw[(ba.J hg b8).I 2];simp[dQ,ptr]⟩
       obtain⟨kb,gx⟩:=eX (k+bs);rw[<-gx] at dw dz;have i8:=(aU _).trans dw;obtain⟨dl,fl⟩:=ca ar.1;have ia:(kb:Int).tmod (F:Int)=(q:Int):=by rw[<-dz];exact Int.tmod_eq_emod_of_nonneg (zD _)
       have Z:=c1.O m oR;have N:=hD (aI dd (aI dr (aI T (aI ai ar))));have br:=hD (aI K a4);have cn:=hD (aI d7 c4);have b1:=hD (aI V (aI a9 bb));clear R K da aw a3 f7 bb V bx bc a4 eL d2 dd dr hg X T ai ar a9 d7 c4 gx gN f0 d9 h4 i7 h5 eq gp h1 hX;go_upto_region 16 with fail;rw[dv];clear dv gB a8 g7 hj ic ie ib
       go_region_held3 (λW=>aa (λb=>u b=3\/b=tp) m W/\W.cell? ⟨L.pb,3,none⟩=some (.slice (some ⟨H,0,none⟩) F g8)/\W.cell? ⟨H,q,none⟩=some (.pointer (some ⟨a0,0,none⟩))/\W.cell? ⟨a0,2,none⟩=some (.pointer (some ⟨cp,0,none⟩)))
        (with_reducible first|exact c1.O _ g4.O|exact c1.O _ (aa.setCell g4.O (Or.inl (Or.inr rfl)) _)|exact c1.O _ (aa.drew oR)|exact c1.O _ oR|fail)
        (first
         |(go_at_call 85;refine(hH.O m.drew (aa.drew oR)).mono ?_;rintro e Y ⟨rfl,fq,j6,ga⟩;have g4:Hd (aa (λb=>u b=3\/b=tp) m Y):=hD (aa.trans (aa.drew oR) (aa.mono fq λb e=>Or.inl e));have b4:=hD fq;have hr:=hD ga;clear fq ga;have b7:=b4.O.J (ae.drew hs.O) (λe=>by rw[b2.O] at e;exact absurd e (by decide));have hk:=b7.I 0;have hl:=b7.I 1;have ec:=b7.fz 0;have ee:=b7.fz 1;have e4:=hD b7;simp[dQ] at hk hl;clear b7)
         |fail)
       clear Z hk hl ec ee;have e0:(Y.setCell ⟨tp,0,none⟩ (.pointer (some ⟨m.heap.size,0,none⟩))).cell? ⟨tp,1,none⟩=some (.int .i64 0):=by rw[(e4.O.s_ 0 _).I 1];simp[dQ]
       have fs:=(e4.O.s_ 0 (.pointer (some ⟨m.heap.size,0,none⟩))).fz 1;clear dw i8 dz ia ih ii dl fl;go_wp2_with fail;go_ret;have cs:=D.O.U (aa.drew (aa.refl (λ_=>False) m));have hR:=hr.O (lE a5) rfl rfl rfl;have bz:=(cs.part (i:=3) b4.O).fill3 (hR.mo (kK cs.tlt (by decide))) (je.snoc N.O.2.2.1 _);obtain⟨hh,fb⟩ :∃t,t=cS u m.drew Y 3:=⟨_,rfl⟩
       rw[<-fb] at bz;have hZ:hh tp=15:=by rw[fb,bL cs.tlt tp (by rw[b2.O];decide)];exact b2.O
       obtain⟨hP,i4⟩:=bz.setAct (kd':=3) (a:=(q,a5.acts.length)) (p:=m.heap.size) (pl:=cb++ [m.heap.size]) (by show f.tps[k]?=some tp;rw[E.O.2.1];exact a7.O.1) a6.O.1 (by show f.dp[k]?=_;rw[E.O.2.2.1];exact a1.O.2.1) e4.O (by rw[show({f with n:=f.n,v:=f.v,ps:=f.ps.set q (cb++ [m.drew.heap.size])}:cN).fp=L.fp from E.O.2.2.2.1];exact a1.O.2.2.1) a1.O.2.2.2 (bH (gS N.O.2.2.1).1) (by show(cb++ [_])[a5.acts.length]?=_;rw[<-N.O.2.2.2.1];simp)
       have hT:jr l k q= {{l with C:=l.C,ds:=l.ds.set q (lE a5)} with ths:=l.ths.set k {act:=some (q,a5.acts.length),kn:=3,cur:=th.cur,run:=th.run}}:=by
        unfold jr;rw[PS.dq_eq N.O.1,PS.th_eq a6.O.1]
       refine⟨true,_,rfl,b0.O (jr l k q) (by rw[yb ab,yb bk,yb (λe=>e.2 b1.O.2.1),yf ⟨b1.O.1,by rw[<-br.O.2];exact b1.O.2.2⟩,cn.O.1,cn.O.2,br.O.2]),hh,({f with ps:=f.ps.set q (cb++ [m.heap.size])}:cN),by rw[hT];exact hP,?_,?_⟩
       ·refine((b5.O.trans (aQ.U (aa.drew (aa.refl _ m)))).trans ?_).trans (aQ.same (i:=15) (by decide) (i4.mono λb e=>by rw[e];exact hZ))
        rw[fb];exact aQ.part cs.tlt (by decide) b4.O
       ·obtain⟨X,T,ce,cf,cg,ai,ch,ci⟩:=b3.O
        exact LK.mo (d:=1) ⟨X,T,ce,cf,cg,ai,ch,ci⟩ (by decide)
      ·have gB:¬(1:Int)<(F:Int):=by omega
       have e6:=hD (aI a4 (aI a9 bb));have b1:=hD V;clear R K da aw a3 a9 f7 bb V bx bc a4 eL d2;go_wp2_with fail;go_ret;exact⟨false,l,rfl,b0.O l (by rw[yb ab,yb bk,yb (λe=>e.2 e6.O.2.1),yb (λe=>e6.O.2.2 (by rw[e6.O.1];exact e.2))]),u,f,D.O,b5.O,b3.O.mo (by decide)⟩
     ·obtain⟨B,ad,f6⟩ :∃B ad,s.queue=B :: ad:=by
       cases hc:s.queue with
       |nil=>exact absurd hc a9
       |cons B ad=>exact⟨B,ad,rfl⟩
      obtain⟨f4,f5⟩:=D.O.p6 (by decide);rw[K.2.1,f6] at f4 f5;obtain⟨g,o,c,cur,am,cq,b8,a2,gb,gc,eb⟩:=f4.resolve_left (λe=>by cases e.2);obtain⟨he,f2⟩:=eX ad.length;rw[zo,<-f2] at am a2;obtain⟨X,T⟩:=eb 0 B rfl;have i6:m.cell? ⟨g,o,none⟩=some (.int .u64 B.job):=by rw[b8.I];simpa using X
      have dq:m.cell? ⟨g,o+1,none⟩=some (.string (sB B.M)):=by rw[b8.I];simpa using T
      have a8:=R.I 6;simp[bJ,am] at a8;have dl:(0:Int)<((he+1:Nat):Int):=by omega
      obtain⟨bm,d5⟩:=eX (he+1);rw[<-d5] at am a2 dl;have hL:m.cell? ⟨L.pb,6,none⟩=some (.slice (some ⟨g,o,none⟩) bm c):=by rw[d5];exact a8
      have N:=hD (aI f6 (aI f2 (aI am (aI d5 (aI cq (aI a2 (aI gb (aI gc eb))))))));have cn:=hD b8;have fw:=hD f5;have hE:=hD R;have b1:=hD (aI V a9);have br:=hD K;clear R K da aw a3 a9 V bc a4 eL d2 f6 f4 f5 am cq b8 a2 gb gc eb f2 X T a8 d5;go_upto_region 12 with fail;obtain⟨Y,cB⟩:=eX (m.alloc (.cells #[.int .u64 B.job,.string (sB B.M)] 58));obtain⟨ef,d1⟩:=eX m.heap.size;rw[<-cB,<-d1];have dn:ac m Y:=by rw[cB];exact oR.alloc _
      have g6:ae Y ef 58 #[.int .u64 B.job,.string (sB B.M)]:=by rw[cB,d1];exact bN
      have bz:=D.O.U dn;have d6:=dn.J hE.O nF;clear i6 dq hL dl;have a8:Y.cell? ⟨L.pb,6,none⟩=some (.slice (some ⟨g,o,none⟩) bm c):=by rw[d6.I 6];simp[bJ,N.O.2.2.1]
      have hO:=d6.fz 6;have fl:¬((bm:Nat):Int)<1:=by rw[N.O.2.2.2.1];omega
      have i0:¬((c:Nat):Int)<((bm:Nat):Int):=by have:=N.O.2.2.2.2.2.1;omega
      have i1:1<=bm:=by rw[N.O.2.2.2.1];omega
      have i2:=N.O.2.2.2.2.2.1;have ht:=hD g6;have e3:=hD bz;have hC:=hD d6;have b4:=hD dn;have hy:Hd (m.heap.size<=ef):=hD (by rw[d1];exact lR);clear cB d1 g6 bz d6 dn;go_upto_region 13 with fail;obtain⟨qv',f8⟩ :∃v,v=Value.slice (if c=1 then some ⟨g,o,none⟩ else some ⟨g,o+2,none⟩) (bm-1) (c-1):=⟨_,rfl⟩
      rw[<-f8];obtain⟨bt,d0⟩:=eX (Y.setCell ⟨L.pb,6,none⟩ qv');rw[<-d0];have bn:aa (λb=>b=L.pb) Y bt:=by rw[d0];exact af _ _ _ _
      have h0:ae bt L.pb 123 (bJ {f with qv:=qv'}):=by rw[d0];have:=hC.O.s_ 6 qv';simpa[bJ] using this
      have bf:u L.pb=1:=by have:=(e3.O.p1 (by decide)).1;rw[E.O.1] at this;exact this
      obtain⟨e0,fs,ik,hm,e1,il,is,it,hn⟩:=N.O
      have gn:rJ bt (λb=>u b=6) qv' ad:=by
       refine .inr ⟨g,if c=1 then o else o+2,c-1,cur,?_,e1,bn.J (b4.O.J cn.O nF) (λe=>by rw[e,bf] at e1;exact absurd e1 (by decide)),by omega,by split<;>omega,by omega,λi n gs=>?_⟩
       ·rw[f8,hm,fs]
        congr 1
        split<;>rfl
       ·have j3:=(gS gs).1
        rw[yb (by omega)];have:=hn (i+1) n (by simpa using gs);rw[show o+2+i*2=o+(i+1)*2 by omega];exact this
      have ei:aY bt u {f with qv:=qv'} {l with queue:=ad}:=((e3.O.kp (i:=1) (tag':=u) bn (λb e=>by rw[e];exact bf) (λ_ _=>rfl) (λb H=>lL (e3.O.tlt b H) bn.size)).mono (λj _ gt=>by simp at gt;rw[gt];simp)).fillQ ⟨by rw[show({f with qv:=qv'}:cN).pb=L.pb from E.O.1];exact bf,by rw[show({f with qv:=qv'}:cN).pb=L.pb from E.O.1];exact h0⟩ ⟨gn,λn hW=>fw.O n (yV _ hW)⟩;have el:=e5.O.unqueue (by rw[br.O.2.1,e0];simp);rw[br.O.2.1,e0] at el;have hJ:Hd (aQ w bt tag u):=hD (((b5.O.trans (aQ.U b4.O)).trans (aQ.same (i:=1) (by decide) (bn.mono λb e=>by rw[e];exact bf))))
      have g2:Hd (LK L {f with qv:=qv'} s {l with queue:=ad} 1):=hD (by
       obtain⟨X,T,ce,cf,cg,ai,ch,ci⟩:=b3.O;exact⟨X,T,ce,cf,cg,ai,ch,ci⟩)
      obtain⟨e8,em⟩:=eX ({f with qv:=qv'}:cN);rw[<-em] at ei g2;have a2:e8.pb=L.pb/\e8.tps=L.tps/\e8.fn=L.fn:=by rw[em];exact⟨E.O.1,E.O.2.1,E.O.2.2.2.2⟩
      have al:=hD (rx (n:=B) ei el ft.O (by rw[a2.2.1];exact a7.O.1) a6.O.1 (fw.O B zh) (by rw[a2.2.2];exact ck.O.fn));rw[a2.1] at al;unfold ptr aW fe at al;have gq:=bn.J ht.O (λe=>by have b9:u ef=0:=gM D.O.tlt hy.O;rw[e,bf] at b9;exact absurd b9 (by decide));obtain⟨j7,j8⟩:=gq.gE2;clear a8 hO fl i0 i1 i2 f8 d0 bn h0 bf e0 fs ik hm e1 il is it hn gn ei el gq em a2
      go_wp2_with (go_at_call 84;refine al.O.mono ?_;rintro e iz ⟨rfl,fr⟩)
      go_ret;refine⟨true,_,rfl,b0.O _ ?_,(cP.then hJ.O g2.O fr).mo (by decide)⟩;rw[yb ab,yb bk,yf b1.O,N.O.1];rfl
    ·have j5:((th.kn:Int)==2)=false:=bF (λe=>V (by omega))
     go_wp2_with fail;go_ret;exact⟨false,l,rfl,b0.O l (by rw[yb ab,yb bk,yb (λe=>V e.1),yb (λe=>V e.1)]),u,f,D.O,b5.O,b3.O.mo (by decide)⟩
end
noncomputable def lD(s:PS)(n m:Nm)(r:aG)(t:aj):PS:=
 {s with T:={s.T with rw:=ax (ax s.T.rw n (some {r with opn:=r.opn+1,kn:=r.kn+1})) m (some ⟨t,1,0,⟨0,0⟩,true,0,false⟩),ks:=s.T.ks++ [m]}}
section
variable {G:dg}{w w':World}{tag tag':Nat->Nat}{L L':cN}{s s':PS}{n:Nm}{r:aG}
theorem xd(al:aY w tag L s)(c1:fI s.C s.ds){k tp:Nat}{th:Th}{x:aT}(b8:L.tps[k]?=some tp)(b1:s.ths[k]?=some th)(cg:s.T.rw th.cur=some r)(bx:r.sa=2)(cd:0<=r.opn/\r.opn<=100)(cb:dE th.cur)(t:aj)(A:Option Addr)(V:Nat)(c:UInt8)(ce:t.M=th.cur.M++ [c])
 (a4:dE ⟨th.cur.job,t.M⟩) (b7:s.T.rw ⟨th.cur.job,t.M⟩=none) (c4:(s.T.ks.length:Int)<L.most) (K:L.most<=1000000) (ba:Nat->Prop) (c0:aJ w ba A t.args) (c7:t.args.length<=100000) (b4:s.known ⟨th.cur.job,t.M⟩=none) (aE:s.away ⟨th.cur.job,t.M⟩=false)
 (c8:s.nms.Nodup) (ck:s.ds[k]?=some x) (c5:own x.acts x.on=none) (c9:s.nms.length<=1000000000):
 Calls Tryz.prog 87 #[ptr L.pb,ptr tp,.agg (bX t A V)] w λb w'=>b=.returned (.tuple #[])/\cP w w' tag L s (eJ (lD s th.cur ⟨th.cur.job,t.M⟩ r t) k ⟨th.cur.job,t.M⟩) 1:=by
 obtain⟨g,u⟩:=eX (⟨th.cur.job,t.M⟩ :Nm);rw[<-u] at a4 b7 b4 aE;rw[<-u];obtain⟨kp,a3⟩:=eX (sB t.M);obtain⟨cn,b3⟩:=eX t.fn;obtain⟨cm,b2⟩:=eX t.args.length;obtain⟨cp,b5⟩:=eX ((t.fuel:Int):Int);obtain⟨E,Z⟩:=eX (w.alloc (.cells #[.string kp,.int .i64 cn,.slice A cm V,.int .i64 cp] 30));have a6:ac w E:=by rw[Z];exact(aa.refl _ w).alloc _
 obtain⟨H,a1⟩:=eX w.heap.size;have ai:ae E H 30 #[.string kp,.int .i64 cn,.slice A cm V,.int .i64 cp]:=by rw[Z,a1];exact bN
 obtain⟨bo,ar⟩:=eX E.drew;have v:ac E bo:=by rw[ar];exact oR.drew
 have X:=al.U a6;have Y:=X.U v;obtain⟨ch,d,av,fv,dm,a5,dn,dp,dq,dr⟩:=X.thW b8 b1;have cf:=(X.p1 (by decide)).2;have bv:=cf.I 4;simp[bJ,ptr] at bv;have cv:=a5.I 3;have cw:=a5.I 4;simp[dQ] at cv cw;obtain⟨e0,e1,e2,e3⟩:=ai.gE4;have R:=hD (Et t A V c ce ba (Y.tagB (i:=2) (by decide)) (Y.p2 (by decide)) cb cg bx cd (by rw[<-u];exact a4) (by rw[<-u];exact b7) c4 K ((c0.kp a6 nG).kp v nG) c7);unfold bX aW fe at R;rw[<-u,<-a3,<-b3,<-b2,<-b5] at R;have bn:=hD Z.symm;have da:=hD ar.symm;have d4:=hD a1;have Q:=hD Y;have d9:=hD (a6.trans v);have bf:=hD (v.J ai nF);have d5:=hD (v.J a5 nF);have ad:=hD ch;have S:=hD (aI b8 (aI b1 (aI ck c5)));have d8:=hD c1;have D:=hD (aI a4 (aI c8 (aI c9 u)));have bm:=hD (aI b4 aE);have d7:=hD a3;have c6:tag H=0:=gM al.tlt (by rw[a1];exact lR);have bk:=hD c6;unfold ptr bX;rw[<-a3,<-b3,<-b2,<-b5];clear al c1 b8 b1 cg bx cd cb ce a4 b7 c4 K c0 c7 b4 aE c8 ck c5 c9 a3 b3 b2 b5 Z a6 a1 ai ar v X Y ch dm a5 dn dp dq dr cf c6;go_enter Tryz.func87,Tryz.ntmps87;go_upto_region 1 with fail;rw[bn.O,<-d4.O];clear bn
 go_still_tail 9,(by kernel_rfl)
 change wpList _ _ _ _ _ E.drew;rw[da.O];clear bv cv cw e0 e1 e2 e3
 go_upto_region 2 with(go_at_call 141;refine R.O.mono ?_;rintro b e ⟨rfl,⟨q,dw,dz,cs⟩,P⟩)
 have c2:=cs ⟨t,1,0,⟨0,0⟩,true,0,false⟩ {r with opn:=r.opn+1,kn:=r.kn+1} rfl rfl rfl rfl rfl rfl rfl rfl rfl rfl;have c3:=Q.O.part (i:=2) P;obtain⟨y,N⟩ :∃t,t=cS tag bo e 2:=⟨_,rfl⟩
 have am:=c3.fill2 (T':=(lD s th.cur g r t).T) (by
  have:=c2.mo (kK Q.O.tlt (i:=2) (by decide));show bS e _ _ _ _ (ax (ax s.T.rw th.cur _) g _) (s.T.ks++ [g]).length _;rw[yk];exact this) rfl
 rw[<-N] at am;have db:Hd (aQ w e tag y):=hD ((aQ.U d9.O).trans (by rw[N];exact aQ.part Q.O.tlt (by decide) P));have ci:y tp=15:=by rw[N,bL Q.O.tlt tp (by rw[ad.O];decide)];exact ad.O
 have bq:=P.J d5.O (λb=>by rw[ad.O] at b;exact absurd b (by decide));have br:=P.J bf.O (λb=>by rw[bk.O] at b;exact absurd b (by decide));have d1:=hD bq;have d3:=hD br;have cB:=hD am
 have e4:=hD (aI ci (show y H=0 by
  rw[N];unfold cS;rw[yb (λb=>absurd bf.O.lt (zC.2 b.1))];exact bk.O))
 have a:Hd (∀W,ac e W->ac e W/\W.cell? ⟨tp,3,none⟩=some (.int .u64 th.cur.job)/\W.cell? ⟨H,0,none⟩=some (.string kp)):=hD λW m=>⟨m,by rw[(m.J d1.O nF).I 3];simp[dQ],(m.J d3.O nF).I 0⟩
 have an:=a.O e oR;clear dw dz cs P c2 c3 N am ci bq br R
 go_region_held3 (λW=>ac e W/\W.cell? ⟨tp,3,none⟩=some (.int .u64 th.cur.job)/\W.cell? ⟨H,0,none⟩=some (.string kp))
  (with_reducible first|exact a.O _ (aa.drew oR)|exact a.O _ oR|exact a.O _ (aa.alloc oR _)|exact a.O _ (aa.alloc (aa.drew oR) _)|exact a.O _ (aa.drew (aa.alloc oR _))|fail) (fail)
 clear an a;have b6:aW g=.agg #[.int .u64 th.cur.job,.string kp]:=by rw[D.O.2.2.2,d7.O];rfl
 have B:=hD b6;obtain⟨F,b0⟩:=eX e.heap.size;obtain⟨f,a0⟩:=eX ((e.alloc (.cells #[.int .u64 th.cur.job,.string kp] 58)).drew);rw[<-a0,<-b0];have b9:ac e f:=by rw[a0];exact(oR.alloc _).drew
 have bc:Hd (ae f F 58 #[.int .u64 th.cur.job,.string kp]):=hD (by rw[a0,b0];exact bN.drew);have bb:=hD (cB.O.U b9);have dd:Hd (aQ w f tag y):=hD (db.O.trans (aQ.U b9));obtain⟨e6,a2⟩:=D.O.1.key;rw[b6] at a2
 have a:Hd (∀W,ac f W->ac f W/\W.cell? ⟨L.pb,10,none⟩=some (.map (some L.kb))/\W.cell? ⟨F,0,none⟩=some (.int .u64 th.cur.job)/\W.cell? ⟨F,1,none⟩=some (.string kp)/\(Instr.lookup 120 (.map (some L.kb)) (.agg #[.int .u64 th.cur.job,.string kp]) true).run Tryz.prog W=.ok (.tuple #[.agg #[.int .i64 0,.int .i64 0],.bool false]) W):=hD λW m=>by
  have l:=bb.O.U m;have K:=m.J bc.O nF;have o:=(l.p12 (by decide)).2.look2 (t:=120) ix Tryz.underlying120 (z:=.agg #[.int .i64 0,.int .i64 0]) (by kernel_rfl) a2;rw[<-B.O,iP] at o;rw[<-B.O,o];refine⟨m,by have:=(l.p1 (by decide)).2.I 10;simpa[bJ] using this,K.I 0,K.I 1,?_⟩;show Result.ok (Value.tuple #[((s.known g).map eV).getD _,.bool ((s.known g).map eV).isSome]) W=_;rw[bm.O.1];rfl
 have an:=a.O f oR;have d6:=hD a2;clear a0 b0 b9 a2 b6;go_upto_region 3 with fail
 go_region_held3 (λW=>ac f W/\W.cell? ⟨L.pb,10,none⟩=some (.map (some L.kb))/\W.cell? ⟨F,0,none⟩=some (.int .u64 th.cur.job)/\W.cell? ⟨F,1,none⟩=some (.string kp)/\(Instr.lookup 120 (.map (some L.kb)) (.agg #[.int .u64 th.cur.job,.string kp]) true).run Tryz.prog W=.ok (.tuple #[.agg #[.int .i64 0,.int .i64 0],.bool false]) W)
  (with_reducible first|exact a.O _ (aa.drew oR)|exact a.O _ oR|exact a.O _ (aa.alloc oR _)|exact a.O _ (aa.alloc (aa.drew oR) _)|exact a.O _ (aa.drew (aa.alloc oR _))|fail) (fail)
 all_goals (
  clear an a;obtain⟨j,aw⟩:=eX ((f.alloc (.cells #[.int .i64 0,.int .i64 0] 35)).drew);rw[<-aw];have a7:ac f j:=by rw[aw];exact(oR.alloc _).drew
  have l:=bb.O.U a7;have p:=a7.J bc.O nF;have bt:=(l.p1 (by decide)).2.I 11;simp[bJ] at bt
  have o:∀q,(Instr.lookup 121 (.map (some L.ab)) (.agg #[.int .u64 th.cur.job,.string kp]) false).run Tryz.prog (j.drewN q)=.ok (.int .i64 0) (j.drewN q):=λq=>by
   have o:=(((l.p13 (by decide)).2).heap (w':=j.drewN q) rfl).look (t:=121) ix Tryz.underlying121 (z:=.int .i64 0) (by kernel_rfl) d6.O;rw[<-B.O,iP] at o;rw[<-B.O,o];show Result.ok ((if s.away g=true then some (Value.int .i64 1) else none).getD _) _=_;rw[bm.O.2];rfl
  obtain⟨cq,cr⟩:=p.gE2;have d0:=hD l;have d2:=hD p;have dk:Hd (aQ w j tag y):=hD (dd.O.trans (aQ.U a7));clear aw a7 l p;go_upto_region 8 with fail
  go_quiet (fail)
  clear o bt cq cr;obtain⟨bp,az⟩:=eX (j.drewN nq);rw[<-az];have a8:ac j bp:=by rw[az];exact oR.drewN nq
  have bz:=d0.O.U a8;have p:=a8.J d2.O nF;obtain⟨cq,cr⟩:=p.gE2;have a9:=hD (sI (n:=g) bz d8.O S.O.1 S.O.2.1 D.O.1 D.O.2.1 S.O.2.2.1 S.O.2.2.2 D.O.2.2.1);rw[B.O] at a9;unfold ptr at a9;have dl:Hd (aQ w bp tag y):=hD (dk.O.trans (aQ.U a8));clear az a8 bz p
  go_wp2_with (go_at_call 93;refine a9.O.mono ?_;rintro b e5 ⟨rfl,dv⟩)
  go_end0
  refine⟨rfl,(cP.then (s':=lD s th.cur g r t) (d:=0) dl.O ?_ dv).mo (by decide)⟩;exact⟨rfl,rfl,rfl,rfl,by simp,by simp,by simp[lD],[],by simp[lD],by simp⟩)
end
theorem tS{t:TS}{n:Nm}{r:aG}{f:Fr}(c:t.rw n=some r)(b:r.sa=2):iQ t n r 2 f= {t with fm:=ax t.fm n (some f)}:=by
 have a:({r with sa:=2}:aG)=r:=by rw[<-b]
 unfold iQ;rw[a,<-c,jZ]
section
variable {G:dg}{w w':World}{tag tag':Nat->Nat}{L L':cN}{s s':PS}{n:Nm}{r:aG}
theorem DU(av:Value)(kd d:Nat)(cur:Nm)(fv:Value):(((dQ av kd d cur fv).setIfInBounds 3 (.int .u64 0)).setIfInBounds 4 (.string ⟨#[]⟩)).setIfInBounds 5 (.pointer none)=dQ av kd d gY (.pointer none):=by
 simp[dQ,gY,sB]
theorem sJ(f:aY w tag L s){k tp:Nat}{th:Th}(i:L.tps[k]?=some tp)(g:s.ths[k]?=some th):
 Calls Tryz.prog 77 #[ptr tp] w λe w'=>e=.returned (.tuple #[])/\aY w' tag L {s with ths:=s.ths.set k {th with cur:=gY,run:=false}}/\aa (λb=>b=tp) w w':=by
 obtain⟨y,d,av,fv,m,a,o,p,z,A⟩:=f.thW i g;have u:=a.I 3;have v:=a.I 4;have x:=a.I 5;simp[dQ] at u v x;have C:=a.fz 3;have D:=a.fz 4;have E:=a.fz 5;have B:(w.setCell ⟨tp,3,none⟩ (.int .u64 0)).cell? ⟨tp,4,none⟩=some (.string (sB th.cur.M)):=by rw[(a.s_ 3 _).I 4];simp[dQ]
 have c:=hD (aI m (aI a (aI o p)));have t:=hD f;have j:=hD (aI i g);unfold ptr;clear f i g y m a o p z A;go_enter Tryz.func77,Tryz.ntmps77;go_wp2_with fail
 go_end0
 have l:=((c.O.2.1.s_ 3 (.int .u64 0)).s_ 4 (.string ⟨#[]⟩)).s_ 5 (.pointer none);rw[DU] at l;have q:aa (λb=>b=tp) w (((w.setCell ⟨tp,3,none⟩ (.int .u64 0)).setCell ⟨tp,4,none⟩ (.string ⟨#[]⟩)).setCell ⟨tp,5,none⟩ (.pointer none)):=((af _ tp 3 _).trans (af _ tp 4 _)).trans (af _ tp 5 _);exact⟨rfl,aX.thread (k:=k) (th:=th) (av:=av) {th with cur:=gY,run:=false} t.O j.O.2 j.O.1 c.O.1 q l c.O.2.2.1 c.O.2.2.2 (λe=>by cases e) (λ_=>rfl),q⟩
structure gU(G:dg)(w:World)(tag:Nat->Nat)(L:cN)(s:PS)(k tp:Nat)(th:Th)(r:aG)(p:List ah)(f:Fr):Prop where
 h:aY w tag L s
 inv:aK G s (λ_=>False)
 htp:L.tps[k]?=some tp
 hk:s.ths[k]?=some th
 ha:th.act=none
 hrun:th.run=true
 hr:s.T.rw th.cur=some r
 h2:r.sa=2
 hf:s.T.fm th.cur=some f
 hfi:kz p r f
 hpr:s.prog th.cur.job=p
 hg:∃x,G th.cur.job=some (p,x)/\bM p x th.cur.M=some r.tk
 hP:mY p
 hT:cC p r.tk
 hn:dE th.cur
theorem gU.mk'(v:aY w tag L s)(a:aK G s (λ_=>False))(y:iN G){k tp:Nat}{th:Th}(A:L.tps[k]?=some tp)(e:s.ths[k]?=some th)(z:th.act=none)(g:th.run=true):∃r p f,gU G w tag L s k tp th r p f:=by
 obtain⟨r,p,x,f,c,m,d,o,q,t,u⟩:=a.current e g;obtain⟨F,H,b,B,C,D,E,i,j,l⟩:=a.row_ok y c;rw[d] at b
 cases b
 exact⟨r,p,f,v,a,A,e,z,g,c,m,q,t,u,⟨x,d,o⟩,i,j,l⟩
structure qL(w W3:World)(tag tag3:Nat->Nat)(L L3:cN)(s:PS)(k tp gn g5:Nat)(th:Th)(f':Fr)(cs:Array Value):Prop where
 h:aY W3 tag3 L3 {s with T:={s.T with fm:=ax s.T.fm th.cur (some f')}}
 go:aQ w W3 tag tag3
 bn:ae W3 gn 58 #[.int .u64 th.cur.job,.string (sB th.cur.M)]
 bs:ae W3 g5 181 cs
 lk:L3= {L with fl:=L3.fl}
 t0:tag3 gn=0/\tag3 g5=0
 sz:w.heap.size<=gn/\w.heap.size<=g5
 tp15:tag3 tp=15
theorem xi{k tp:Nat}{th:Th}{p:List ah}{f:Fr}(a:gU G w tag L s k tp th r p f)(W:(f.run1 p).2=.more):
 Calls Tryz.prog 46 #[ptr L.pb,ptr tp] w λc w'=>c=.returned (.tuple #[])/\cP w w' tag L s (fi s k) 4:=by
 have N:=a.h;obtain⟨al,d,av,fv,b8,P,b9,ba,an,bb⟩:=N.thW a.htp a.hk;obtain⟨q,K⟩:=eX (L.fp th.cur);have ab:=an a.hrun;rw[<-K] at ab;subst ab;have aw:=P.I 3;have az:=P.I 4;simp[dQ] at aw az;obtain⟨A,E⟩:=eX (w.alloc (.cells #[.int .u64 th.cur.job,.string (sB th.cur.M)] 58));have Q:ac w A:=by rw[E];exact(aa.refl _ w).alloc _
 obtain⟨V,H⟩:=eX w.heap.size;have a4:ae A V 58 #[.int .u64 th.cur.job,.string (sB th.cur.M)]:=by rw[E,H];exact bN
 have C:=N.U Q;obtain⟨S,B⟩:=C.p16 th.cur f a.hf (by simp);rw[a.hpr,<-K] at S;rw[a.hpr] at B;have l:=hD (pF (C.tagB (i:=100+q) (by omega)) S a.hP.ok (B a.hfi.res) a.hfi.res);unfold qk at l;obtain⟨f',m⟩:=eX ((f.run1 p).1);rw[W,<-m] at l;simp only[jb,uR] at l;have am:=Q.J P nF;have aE:=am.I 5;simp[dQ,ptr] at aE;have e:=hD a;have a3:=hD E.symm;have Z:=hD H;have z:=hD C;have a1:=hD Q;have X:=hD a4;have b3:=hD K;have b1:=hD m;have b4:=hD W;have a2:=hD al;have ad:tag V=0:=gM N.tlt (by rw[H];exact lR);have Y:=hD ad
 have b2:Hd (f'.result=none->gQ p f'):=hD λb6=>by
  rcases rA a.hP.ok (B a.hfi.res) with⟨x,c,_⟩|⟨c,_⟩
  ·have:=(jX a.hfi.ok a.hfi.res (p:=p)).done x c
   rw[<-m,b6] at this
   cases this.2.2
  ·rw[m];exact c
 unfold ptr;clear a N al b8 P b9 ba an bb K E Q H a4 C S B m W am ad;go_enter Tryz.func46,Tryz.ntmps46;go_upto_region 1 with fail;rw[a3.O,<-Z.O];clear a3 aw az
 go_upto_region 2 with(go_at_call 86;refine l.O.mono ?_;rintro c g ⟨bc,bk,rfl,⟨ar,a5⟩,v,b7⟩)
 clear l aE;obtain⟨R,F⟩:=eX (g.alloc (.cells #[.int .u8 1,.string ⟨#[]⟩,.int .i64 0,.slice none 0 0,.int .i64 0,.int .i64 0,.int .i64 0] 181));obtain⟨a7,o⟩:=eX g.heap.size;rw[<-F,<-o];have y:ac g R:=by rw[F];exact oR.alloc _
 have bs:ae R a7 181 #[.int .u8 1,.string ⟨#[]⟩,.int .i64 0,.slice none 0 0,.int .i64 0,.int .i64 0,.int .i64 0]:=by rw[F,o];exact bN
 obtain⟨b0,u⟩ :∃t,t=cS tag A g (100+q):=⟨_,rfl⟩
 have a9:=z.O.part (i:=100+q) v
 have a6:aZ g (λb=>cS tag A g (100+q) b=100+q) q ar p f':=a5.mo λb j=>by
  rcases j with j|j
  ·exact(bL z.O.tlt b (by rw[j];omega)).trans j
  ·exact fS j
 have ai:s.T.fm th.cur≠none:=by rw[e.O.hf];simp
 have D:=a9.frame (n:=th.cur) b3.O ai (by rw[e.O.hpr];exact a6) (by rw[e.O.hpr];exact b2.O);rw[<-u] at D
 have a8:qL w R tag b0 L {L with fl:=ax L.fl th.cur ar} s k tp V a7 th f' #[.int .u8 1,.string ⟨#[]⟩,.int .i64 0,.slice none 0 0,.int .i64 0,.int .i64 0,.int .i64 0]:=⟨D.U y,((aQ.U a1.O).trans (by rw[u];exact aQ.part z.O.tlt (by omega) v)).trans (aQ.U y),y.J (v.J X.O (λc=>by rw[Y.O] at c;omega)) nF,bs,rfl,⟨by
  rw[u];unfold cS;rw[yb (λc=>absurd X.O.lt (zC.2 c.1))];exact Y.O,gM D.tlt (by rw[o];exact lR)⟩,⟨by rw[Z.O];exact lR,by rw[o];exact lT a1.O.size v.size⟩,by rw[u,bL z.O.tlt tp (by rw[a2.O];decide)];exact a2.O⟩
 have a0:=hD a8;have bf:=hD y;clear F o y u a9 a5 a6 ai D a8;have s0:=bs.I 0;simp at s0;clear bs v b7;go_wp2_with fail
 go_end0
 have b5:fi s k= {s with T:={s.T with fm:=ax s.T.fm th.cur (some f')}}:=by
  unfold fi;rw[PS.th_eq e.O.hk,e.O.hr,e.O.hf];simp only;rw[e.O.hpr,b4.O];simp only;rw[tS e.O.hr e.O.h2,b1.O]
 rw[b5];exact⟨rfl,b0,_,a0.O.h,a0.O.go,⟨rfl,rfl,rfl,rfl,by simp;omega,by simp;omega,by simp;omega,[],by simp,by simp⟩⟩
theorem gU.step{k tp:Nat}{th:Th}{p:List ah}{f:Fr}(a:gU G w tag L s k tp th r p f):lO p f (jB p r.tk r.kn) (f.run1 p):=jX a.hfi.ok a.hfi.res
theorem gU.opn{k tp:Nat}{th:Th}{p:List ah}{f:Fr}(a:gU G w tag L s k tp th r p f):0<=r.opn/\r.opn<=16:=by
 have b:=a.inv.t.row _ _ a.hr;have c:=b.opn;have d:=b.kn
 have e:dY s.T.rw th.cur r.kn<=r.kn:=by
  unfold dY;exact lT (List.length_filter_le _ _) (by simp)
 omega
theorem gU.fk{k tp:Nat}{th:Th}{p:List ah}{f:Fr}{t:aj}(a:gU G w tag L s k tp th r p f)(q:(f.run1 p).2=.fork t):
 (⟨th.cur.job,t.M⟩ :Nm)=aH th.cur r.kn/\s.T.rw ⟨th.cur.job,t.M⟩=none/\t.M=th.cur.M++ [UInt8.ofNat (r.kn+1)]/\dE ⟨th.cur.job,t.M⟩/\t.args.length<=100000/\(aR p r.tk)[r.kn]?=some t/\∃x u,G th.cur.job=some (p,x)/\bM p x t.M=some u:=by
 have o:=a.step;have l:f.run1 p=((f.run1 p).1,.fork t):=by rw[<-q]
 obtain⟨d,v,z⟩:=lp a.inv.t a.hr a.hfi (l ▸ o);have b:=(lF a.hP.ok a.hT).2 t (yh d);have c:=(dJ d).1;have m:=a.inv.t.M a.hr;rw[m] at c;have g:(⟨th.cur.job,t.M⟩ :Nm)=aH th.cur r.kn:=by rw[c];rfl
 obtain⟨x,i,j⟩:=a.hg;have y:=b.al;have e:=a.hP.ok.fn b.fn0 b.fn1;have:=e.ar;have:=e.r16;exact⟨g,by rw[g];exact v,c,⟨a.hn.1,b.pth⟩,by omega,d,x,t,i,by rw[c];exact mI j d⟩
theorem xg{k tp:Nat}{th:Th}{p:List ah}{f:Fr}{t:aj}(c:gU G w tag L s k tp th r p f)(X:(f.run1 p).2=.fork t)(b7:kR L s)(bf:∀g,s.known g=none)(ba:∀g,s.away g=false)(bk:L.most<=1000000)
 (bn:∀g p x u,s.T.rw g=none->G g.job=some (p,x)->bM p x g.M=some u->(s.T.ks.length:Int)<L.most):
 Calls Tryz.prog 46 #[ptr L.pb,ptr tp] w λe w'=>e=.returned (.tuple #[])/\cP w w' tag L s (fi s k) 4:=by
 obtain⟨c1,an,c2,c3,c4,cq,x,u,c5,c6⟩:=c.fk X;have l:=hD (aI c1 (aI an (aI c2 (aI c3 (aI c4 (bn _ _ _ _ an c5 c6))))));have v:=hD (aI bf (aI ba bk));have c7:=hD b7;clear c1 an c2 c3 c4 cq c5 c6 bf ba bk bn b7;have Y:=c.h;obtain⟨bo,d,av,fv,ch,Z,ci,ck,bt,cm⟩:=Y.thW c.htp c.hk;obtain⟨q,W⟩:=eX (L.fp th.cur);have bb:=bt c.hrun;rw[<-W] at bb;subst bb;have bx:=Z.I 3;have bz:=Z.I 4;simp[dQ] at bx bz;obtain⟨H,R⟩:=eX (w.alloc (.cells #[.int .u64 th.cur.job,.string (sB th.cur.M)] 58));have a0:ac w H:=by rw[R];exact(aa.refl _ w).alloc _
 obtain⟨a5,V⟩:=eX w.heap.size;have b2:ae H a5 58 #[.int .u64 th.cur.job,.string (sB th.cur.M)]:=by rw[R,V];exact bN
 have P:=Y.U a0;obtain⟨a4,N⟩:=P.p16 th.cur f c.hf (by simp);rw[c.hpr,<-W] at a4;rw[c.hpr] at N;have z:=hD (pF (P.tagB (i:=100+q) (by omega)) a4 c.hP.ok (N c.hfi.res) c.hfi.res);unfold qk at z;obtain⟨f',A⟩:=eX ((f.run1 p).1);rw[X,<-A] at z;simp only[jb,ms] at z;have br:=a0.J Z nF;have c0:=br.I 5;simp[dQ,ptr] at c0;have a:=hD c;have b1:=hD R.symm;have az:=hD V;have F:=hD P;have aE:=hD a0;have ar:=hD b2;have cd:=hD W;have c8:=hD A;have ce:=hD X;have b0:=hD bo;have bc:tag a5=0:=gM Y.tlt (by rw[V];exact lR);have aw:=hD bc
 have c9:Hd (f'.result=none->gQ p f'):=hD λcg=>by
  rcases rA c.hP.ok (N c.hfi.res) with⟨x,e,_⟩|⟨e,_⟩
  ·have:=(jX c.hfi.ok c.hfi.res (p:=p)).done x e
   rw[<-A,cg] at this
   cases this.2.2
  ·rw[A];exact e
 unfold ptr;clear c Y bo ch Z ci ck bt cm W R a0 V b2 P a4 N A X br bc;go_enter Tryz.func46,Tryz.ntmps46;go_upto_region 1 with fail;rw[b1.O,<-az.O];clear b1 bx bz
 go_upto_region 2 with(go_at_call 86;refine z.O.mono ?_;rintro e m ⟨E,K,rfl,⟨bv,b3⟩,D,bp⟩)
 clear z c0;obtain⟨kp,a9⟩:=eX (sB t.M);obtain⟨al,a8⟩:=eX t.fn;obtain⟨ai,a7⟩:=eX t.args.length;obtain⟨am,ab⟩:=eX ((t.fuel:Int):Int);rw[<-a9,<-a8,<-a7,<-ab];have bq:=bp t rfl;obtain⟨a3,S⟩:=eX (m.alloc (.cells #[.int .u8 2,.string kp,.int .i64 al,.slice E ai K,.int .i64 am,.int .i64 0,.int .i64 0] 181));obtain⟨b5,B⟩:=eX m.heap.size;rw[<-S,<-B];have j:ac m a3:=by rw[S];exact oR.alloc _
 have bs:ae a3 b5 181 #[.int .u8 2,.string kp,.int .i64 al,.slice E ai K,.int .i64 am,.int .i64 0,.int .i64 0]:=by rw[S,B];exact bN
 obtain⟨cp,C⟩ :∃t,t=cS tag H m (100+q):=⟨_,rfl⟩
 have b9:=F.O.part (i:=100+q) D
 have b4:aZ m (λb=>cS tag H m (100+q) b=100+q) q bv p f':=b3.mo λb o=>by
  rcases o with o|o
  ·exact(bL F.O.tlt b (by rw[o];omega)).trans o
  ·exact fS o
 have bm:s.T.fm th.cur≠none:=by rw[a.O.hf];simp
 have Q:=b9.frame (n:=th.cur) cd.O bm (by rw[a.O.hpr];exact b4) (by rw[a.O.hpr];exact c9.O);rw[<-C] at Q
 have b8:qL w a3 tag cp L {L with fl:=ax L.fl th.cur bv} s k tp a5 b5 th f' #[.int .u8 2,.string kp,.int .i64 al,.slice E ai K,.int .i64 am,.int .i64 0,.int .i64 0]:=⟨Q.U j,((aQ.U aE.O).trans (by rw[C];exact aQ.part F.O.tlt (by omega) D)).trans (aQ.U j),j.J (D.J ar.O (λe=>by rw[aw.O] at e;omega)) nF,bs,rfl,⟨by
  rw[C];unfold cS;rw[yb (λe=>absurd ar.O.lt (zC.2 e.1))];exact aw.O,gM Q.tlt (by rw[B];exact lR)⟩,⟨by rw[az.O];exact lR,by rw[B];exact lT aE.O.size D.size⟩,by rw[C,bL F.O.tlt tp (by rw[b0.O];decide)];exact b0.O⟩
 have a2:=hD b8;have cb:=hD j;clear S B j C b9 b3 b4 bm Q b8;have b6:=a2.O.h;have j:=a2.O.go;obtain⟨y,ad⟩ :∃y,s.ds[k]?=some y:=⟨s.ds[k]'(by rw[a.O.inv.nlen];exact(gS a.O.hk).1),gG _⟩
 have a6:=(a.O.inv.th k th a.O.hk).free a.O.ha;rw[PS.dq_eq ad] at a6;have a1:=hD (xd (r:=r) (x:=y) b6 a.O.inv.many a.O.htp a.O.hk a.O.hr a.O.h2 ⟨a.O.opn.1,Ya a.O.opn.2 (by decide)⟩ a.O.hn t E K _ l.O.2.2.1 l.O.2.2.2.1 l.O.2.1 l.O.2.2.2.2.2 v.O.2.2 _ (bq.kp cb.O nG) l.O.2.2.2.2.1 (v.O.1 _) (v.O.2.1 _) a.O.inv.nnodup ad a6 c7.O.nm);unfold bX ptr at a1;rw[<-a9,<-a8,<-a7,<-ab] at a1;obtain⟨s0,cs,cv,cw,cB⟩:=bs.gE5;clear bs D bp bq b6 j ad a6 a9 a8 a7 ab
 go_wp2_with (go_at_call 87;refine a1.O.mono ?_;rintro e cr ⟨rfl,cn⟩)
 go_end0
 have cf:fi s k=eJ (lD {s with T:={s.T with fm:=ax s.T.fm th.cur (some f')}} th.cur ⟨th.cur.job,t.M⟩ r t) k ⟨th.cur.job,t.M⟩:=by
  unfold fi;rw[PS.th_eq a.O.hk,a.O.hr,a.O.hf];simp only;rw[a.O.hpr,ce.O];simp only;unfold i5;rw[v.O.1];simp only;rw[yb (by rw[v.O.2.1];decide),l.O.1,<-c8.O];rfl
 rw[cf];refine⟨rfl,(cP.then (d:=0) a2.O.go ?_ cn).mo (by decide)⟩;exact⟨rfl,rfl,rfl,rfl,by simp,by simp,by simp,[],by simp,by simp⟩
end
theorem rG{α:Type}(f:Nm->α)(n:Nm)(x y:α):ax (ax f n x) n y=ax f n y:=by
 funext m
 by_cases a:m=n
 ·subst a;rw[ay,ay]
 ·rw[ag _ _ a,ag _ _ a,ag _ _ a]
noncomputable def vQ(t:TS)(n:Nm)(r:aG):Nm:=if fE t n r=true then dL n else gY
theorem Br{rows:Nm->Option aG}{b:Nm}{i kn:Nat}(d:i<kn)(c:cI rows (aH b i)=true):1<=dY rows b kn:=by
 unfold dY;exact List.length_pos_of_mem (a:=i) (Yg.2 ⟨zw.2 d,c⟩)
theorem Cd{G:dg}{w:World}{F:Nat->Prop}{z K:Nat}{N:Int}{cnt:Nat}{rp:Nm->Nat}{t:TS}{n:Nm}{r:aG}(y:aL)(u:∀b,F b->b<w.heap.size)(p:bS w F z K N t.rw cnt rp)(A:cA G t)(g:t.rw n=some r)(m:r.sa=2)(v:dE n):
 Calls Tryz.prog 54 #[.pointer (some ⟨z,0,none⟩),aW n,eV y] w λe w'=>e=.returned (.tuple #[aW (vQ t n r),.bool (fE t n r),.int .i64 0])/\bS w' F z K N (bI t n r y true).rw cnt rp/\aa F w w':=by
 have Q:=A.row n r g
 rcases Q.up with⟨c,W⟩|⟨c,a,i,q,l,f,P⟩
 ·have d:fE t n r=false:=by unfold fE;rw[c]
  have o:(bI t n r y true).rw=ax t.rw n (some {r with sa:=6,res:=y,here:=true}):=by unfold bI;simp only;rw[c]
  refine(Bv y u p v g (.inl m) c).mono ?_;rintro e w' ⟨rfl,j,k⟩;refine⟨?_,?_,k⟩
  ·unfold vQ
   rw[d,yb (by decide)];rfl
  ·rw[o]
   exact j _ rfl rfl rfl rfl rfl
 ·have x:dL n=a:=by rw[l,lG]
  have E:=A.row a q f
  have S:cI t.rw (aH a i)=true:=by
   rw[<-l];unfold cI;rw[g];simp[m]
  have T:=Br P S
  have V:dY t.rw a q.kn<=q.kn:=by
   unfold dY;exact lT (List.length_filter_le _ _) (by simp)
  have C:1<=q.opn/\q.opn<=100:=by
   have:=E.opn;have:=E.kn;omega
  have B:a=⟨n.job,a.M⟩:=by rw[l];rfl
  have D:n.M=a.M++ [UInt8.ofNat (i+1)]:=by rw[l];rfl
  have o:(bI t n r y true).rw=ax (ax t.rw n (some {r with sa:=6,res:=y,here:=true})) a (some (fz q)):=by
   unfold bI;simp only;rw[c,x,f]
  have H:fE t n r=decide (q.sa=3/\q.opn-1=0):=jt c (by rw[x];exact f)
  by_cases d:q.sa=3/\q.opn-1=0
  ·refine(Bw y a a.M (UInt8.ofNat (i+1)) q B D u p v g (.inl m) c f C ⟨by omega,d.1⟩).mono ?_
   rintro e w' ⟨rfl,j,k⟩;refine⟨?_,?_,k⟩
   ·unfold vQ
    rw[H,yg d,yf rfl,x]
   ·rw[o]
    exact j _ _ rfl rfl rfl rfl rfl rfl (by unfold fz;rw[yf d]) rfl rfl rfl
  ·have R:0<q.opn-1\/q.sa≠3:=by
    by_cases e:q.sa=3
    ·have:¬q.opn-1=0:=λf=>d ⟨e,f⟩
     exact .inl (by omega)
    ·exact .inr e
   refine(Dk y a a.M (UInt8.ofNat (i+1)) q B D u p v g (.inl m) c f C R).mono ?_;rintro e w' ⟨rfl,j,k⟩;refine⟨?_,?_,k⟩
   ·unfold vQ
    rw[H,yd d,yb (by decide)];rfl
   ·rw[o]
    exact j _ _ rfl rfl rfl rfl rfl rfl (by unfold fz;rw[yb d]) rfl rfl rfl
end
end Go.Proofs.YtmdocplknceilaaGreat
