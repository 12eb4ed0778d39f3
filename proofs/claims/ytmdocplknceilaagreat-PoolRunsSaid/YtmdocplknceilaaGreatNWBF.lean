import Derived.Test.YtmdocplknceilaaGreatNWBE
set_option linter.all false
set_option maxRecDepth 100000
set_option maxHeartbeats 2000000
namespace Go.Proofs.YtmdocplknceilaaGreat
section
open Go.RowKit Go.Maps
structure eh where
 rg:List Int
 at_:Int
 left:Nat
 kd:Nat
 first:Nat
 into:List Int
structure gO where
 PA:Option Addr
 pc:Nat
 TA:Option Addr
 tc:Nat
 gb:Nat
 rc:Nat
 iv:Value
 dv:Value
def cT(L:gO)(n:Nat)(t:aj)(s:eh):Array Value:=
 #[.slice L.PA n L.pc,.string (sB t.M),.int .i64 t.fn,.slice L.TA t.args.length L.tc,.int .i64 (t.fuel:Int),.slice (some ⟨L.gb,0,none⟩) s.rg.length L.rc,.int .i64 s.at_,.int .i64 (s.left:Int),.int .i64 (s.kd:Int),.int .i64 (s.first:Int),L.iv,L.dv]
structure cu(w:World)(rb:Nat)(L:gO)(p:List ah)(t:aj)(s:eh):Prop where
 J:ae w rb 112 (cT L p.length t s)
 rg:ae w L.gb 2 (s.rg.map (Value.int .i64)).toArray
 into:w.ownsRow 0 3 1 L.iv s.into.length (s.into.map (Value.int .i64))
 cap:s.rg.length<=L.rc
def Fk(w w':World)(A TA:Option Addr)(c tc:Nat)(p:List ah)(t:aj)(e:Ending):Prop:=
 ∃rb gb rc,e=.returned (.pointer (some ⟨rb,0,none⟩))/\bC w w' rb/\bC w w' gb/\cu w' rb ⟨A,c,TA,tc,gb,rc,.slice none 0 0,.slice none 0 0⟩ p t ⟨gW p t.fn t.args,0,t.fuel,0,1,[]⟩/\ac w w'
def kW(rl:Nat)(xs:List Int):List Int:=xs++List.replicate (rl-xs.length) 0
theorem tV{rl:Nat}{xs:List Int}(c:xs.length<=rl):(kW rl xs).length=rl:=by
 unfold kW;rw[yk,List.length_replicate];omega
theorem A3{rl k:Nat}{xs:List Int}{x:Int}(e:xs[k]?=some x)(i:xs.length<=rl):(kW rl (xs.take k)).set k x=kW rl (xs.take (k+1)):=by
 have j:=(gS e).1;have c:(xs.take k).length=k:=by rw[ze];omega
 have f:(xs.take (k+1)).length=k+1:=by rw[ze];omega
 unfold kW;rw[c,f,List.set_append_right k x (by omega),c,Nat.sub_self];have g:rl-k=(rl-(k+1))+1:=by omega
 rw[g,List.replicate_succ,List.set_cons_zero,yO,e,yY];rfl
theorem pL(l:List Int)(k:Nat)(x:Int):((l.map (Value.int .i64)).toArray.setIfInBounds k (.int .i64 x))=((l.set k x).map (Value.int .i64)).toArray:=by
 apply Yd.1;simp
theorem ca{fn n:Nat}(c:fn<n):(0:Int)<=(fn:Int)/\(fn:Int)<(n:Int):=by omega
theorem wL(p:List ah)(A g:Option Addr)(c l:Nat)(F cq:Nat->Prop)(t:aj)(w:World)(c4:fN w F A p)(c6:gC p)(c5:aL w cq g t.args)(r:bW p t):
 Calls Tryz.prog 40 #[aP p A c,.agg (bO t g l)] w λT w'=>Fk w w' A g c l p t T:=by
 obtain⟨n,ai⟩:=eX p.length;obtain⟨al,a9⟩:=eX t.args.length;obtain⟨fn,Y⟩ :∃fn:Nat,t.fn=(fn:Int):=ym r.fn0;obtain⟨x,a1⟩:=eX (bG p t.fn);have cf:p[fn]?=some x:=by rw[a1,<-(gk r.fn0 r.fn1).2,Y,yo]
 have N:=c6.fn r.fn0 r.fn1;rw[<-a1] at N;obtain⟨dn,dp⟩:=ca (fn:=fn) (n:=n) (by have:=r.fn1;rw[Y,<-ai] at this;exact yB.1 this);obtain⟨R,V⟩:=eX (w.alloc (.cells #[.slice A n c] 24));obtain⟨z,a7⟩:=eX (R.alloc (.cells #[.string (sB t.M),.int .i64 (fn:Int),.slice g al l,.int .i64 (t.fuel:Int)] 30));have cn:ac w R:=by rw[V];exact(aa.refl _ w).alloc _
 have bm:ac R z:=by rw[a7];exact oR.alloc _
 obtain⟨f,ad⟩:=eX w.heap.size;have b1:ae z f 24 #[.slice A n c]:=bm.J (by rw[V,ad];exact bN) nF;have b3:ae z (f+1) 30 #[.string (sB t.M),.int .i64 (fn:Int),.slice g al l,.int .i64 (t.fuel:Int)]:=by rw[a7];have:=ae.new R 30 #[.string (sB t.M),.int .i64 (fn:Int),.slice g al l,.int .i64 (t.fuel:Int)];rw[show R.heap.size=f+1 by rw[V,ad];simp] at this;exact this
 have Q:=cn.trans bm;obtain⟨b,o,B,c2,db,bf,an,bk,_⟩:=c4.at_ cf;subst db;obtain⟨rl,Z⟩ :∃rl:Nat,x.rg=(rl:Int):=ym (by have:=N.a0;have:=N.ar;omega);have am:rl<=16:=by have:=N.r16;rw[Z] at this;omega
 rw[Z] at an;have dr:=(Q.I (p:=⟨b,o+fn*3,none⟩) (block_lt_of_cell bf) nF).trans bf;have ds:=(Q.I (p:=⟨b,o+fn*3+1,none⟩) (block_lt_of_cell an) nF).trans an;have ck:=(Q.I (p:=⟨b,o+fn*3+2,none⟩) (block_lt_of_cell bk) nF).trans bk;have c7:al<=rl:=by have d9:=r.al;have da:=N.ar;rw[<-a1,<-a9] at d9;rw[Z] at da;omega
 obtain⟨cm,ce⟩:=eX x.ops.length;rw[<-ce] at ck;have cp:=b1.I 0;simp[] at cp;obtain⟨dw,dz,bo,e0⟩:=b3.gE4;have cr:=hD b1;have cs:=hD b3;have d2:=hD Q;have d0:=hD (c5.kp Q nG);have m:=hD (aI ai (aI a9 (aI Y a1)));have cB:=hD ad;have v:=hD (aI Z (aI am c7));have bz:=hD (show((w.alloc (.cells #[.slice (some ⟨b,o,none⟩) n c] 24)).alloc (.cells #[.string (sB t.M),.int .i64 (fn:Int),.slice g al l,.int .i64 (t.fuel:Int)] 30))=z by rw[a7,V]);unfold aP bO;rw[<-ai,<-a9,Y];clear c4 c6 c5 r ai a9 Y a1 cf N Z am c7 V a7 cn bm ad b1 b3 Q bf an bk ce;go_enter Tryz.func40,Tryz.ntmps40;go_upto_region 1 with fail;rw[bz.O,<-cB.O];clear bz;go_wp2_with fail;clear dr ds ck dn dp cp dw dz bo e0;obtain⟨j,a8⟩:=eX (z.alloc (.cells #[.int .i64 x.args,.int .i64 (rl:Int),.slice B cm c2] 99));obtain⟨fp,ba⟩:=eX z.heap.size;rw[<-a8,<-ba];have a3:ac z j:=by rw[a8];exact oR.alloc _
 have c0:ae j fp 99 #[.int .i64 x.args,.int .i64 (rl:Int),.slice B cm c2]:=by rw[a8,ba];exact bN
 have b2:=a3.J cr.O nF;have b4:=a3.J cs.O nF
 have q:Hd (∀W,ac j W->ac j W/\W.cell? ⟨f,0,none⟩=some (.slice (some ⟨b,o,none⟩) n c)/\W.cell? ⟨f+1,0,none⟩=some (.string (sB t.M))/\W.cell? ⟨f+1,1,none⟩=some (.int .i64 (fn:Int))/\W.cell? ⟨f+1,2,none⟩=some (.slice g al l)/\W.cell? ⟨f+1,3,none⟩=some (.int .i64 (t.fuel:Int))/\W.cell? ⟨fp,1,none⟩=some (.int .i64 (rl:Int))):=hD λW a6=>by
  have e1:=a6.J b2 nF;have av:=a6.J b4 nF;have e2:=a6.J c0 nF;exact⟨a6,e1.I 0,av.I 0,av.I 1,av.I 2,av.I 3,e2.I 1⟩
 obtain⟨G,b7⟩:=eX ((List.replicate rl (Value.int .i64 0)).toArray);obtain⟨dq,cb,cg,ch,ci⟩:=mI;have am:=v.O.2.1
 have dl:∀W,(Instr.makeSlice 25 (.int .i64 (rl:Int)) (.int .i64 (rl:Int))).run Tryz.prog W=.ok (.slice (some ⟨W.heap.size,0,none⟩) rl rl) (W.alloc (.cells G 2)):=λW=>by
  have:=kY (P:=Tryz.prog) 25 2 dq (.int .i64 0) Tryz.underlying25 cb cg .i64 .i64 rl rl (lR) (by rw[ci];omega) (by omega) W;rw[ch,Nat.mul_one] at this;rw[this,b7]
  congr 3
  apply Yd.1;rw[show(Value.int .i64 0).cells= #[.int .i64 0] from rfl,toList_madeCells_one]
 have e4:=hD b2;have cv:=hD b4;have bv:=hD (d2.O.trans a3);have bt:=hD (d0.O.kp a3 nG);have d7:=hD b7;have dd:=q.O j oR;clear a8 ba a3 c0 b2 b4 cb cg ch ci b7 am
 go_region_held3 (λw'=>ac j w'/\w'.cell? ⟨f,0,none⟩=some (.slice (some ⟨b,o,none⟩) n c)/\w'.cell? ⟨f+1,0,none⟩=some (.string (sB t.M))/\w'.cell? ⟨f+1,1,none⟩=some (.int .i64 (fn:Int))/\w'.cell? ⟨f+1,2,none⟩=some (.slice g al l)/\w'.cell? ⟨f+1,3,none⟩=some (.int .i64 (t.fuel:Int))/\w'.cell? ⟨fp,1,none⟩=some (.int .i64 (rl:Int)))
  (first|with_reducible exact q.O _ (aa.drew oR)|with_reducible exact q.O _ oR|with_reducible exact q.O _ (aa.alloc oR _)|with_reducible exact q.O _ (aa.alloc (aa.drew oR) _)|with_reducible exact q.O _ (aa.alloc (aa.alloc oR _) _)|with_reducible exact q.O _ (aa.alloc (aa.alloc (aa.drew oR) _) _)|fail) (fail)
 obtain⟨e,K⟩:=eX j.heap.size;rw[<-K];obtain⟨S,X⟩:=eX (((j.alloc (.cells G 2)).alloc (.cells #[.slice (some ⟨b,o,none⟩) n c,.string (sB t.M),.int .i64 (fn:Int),.slice g al l,.int .i64 (t.fuel:Int),.slice (some ⟨e,0,none⟩) rl rl,.int .i64 0,.int .i64 (t.fuel:Int),.int .i64 0,.int .i64 1,.slice none 0 0,.slice none 0 0] 112)).drew);rw[<-X];have a5:=(aa.refl (λ_=>False) j).alloc (.cells G 2);have bn:=(aa.refl (λ_=>False) (j.alloc (.cells G 2))).alloc (.cells #[.slice (some ⟨b,o,none⟩) n c,.string (sB t.M),.int .i64 (fn:Int),.slice g al l,.int .i64 (t.fuel:Int),.slice (some ⟨e,0,none⟩) rl rl,.int .i64 0,.int .i64 (t.fuel:Int),.int .i64 0,.int .i64 1,.slice none 0 0,.slice none 0 0] 112);have a4:ac j S:=by rw[X];exact(a5.trans bn).drew
 have b5:ae S e 2 G:=by rw[X];exact(bn.J (by rw[K];exact bN) nF).drew
 have c1:ae S (e+1) 112 #[.slice (some ⟨b,o,none⟩) n c,.string (sB t.M),.int .i64 (fn:Int),.slice g al l,.int .i64 (t.fuel:Int),.slice (some ⟨e,0,none⟩) rl rl,.int .i64 0,.int .i64 (t.fuel:Int),.int .i64 0,.int .i64 1,.slice none 0 0,.slice none 0 0]:=by
  rw[X];have:=ae.new (j.alloc (.cells G 2)) 112 #[.slice (some ⟨b,o,none⟩) n c,.string (sB t.M),.int .i64 (fn:Int),.slice g al l,.int .i64 (t.fuel:Int),.slice (some ⟨e,0,none⟩) rl rl,.int .i64 0,.int .i64 (t.fuel:Int),.int .i64 0,.int .i64 1,.slice none 0 0,.slice none 0 0];rw[World.size_alloc,<-K] at this;exact this.drew
 have d8:Hd (ae S e 2 ((kW rl (t.args.take 0)).map (Value.int .i64)).toArray):=hD (by
  have:(kW rl (t.args.take 0)).map (Value.int .i64)=List.replicate rl (.int .i64 0):=by unfold kW;simp
  rw[this,<-d7.O];exact b5)
 have d4:=hD c1;have bp:=hD (a4.J cv.O nF);have e5:=hD (bt.O.kp a4 nG);have d3:=hD (bv.O.trans a4);have az:Hd (w.heap.size<=e):=hD (by rw[K];exact bv.O.size);have cw:=hD K.symm;have bx:=hD a4;have br:Hd (f+1≠e/\e+1≠e):=hD ⟨ae.ne_ bp.O b5 (by decide),by omega⟩;clear dd X a5 bn a4 b5 c1 K dl q;go_upto_region 3 with fail;go_wp2_with fail
 go_loopw [7] (λi wr=>∃k:Nat,k<=al/\i=.int .i64 k/\aa (λb=>b=e) S wr/\ae wr e 2 ((kW rl (t.args.take k)).map (Value.int .i64)).toArray) (λi _=>al-(intOf i).toNat)
 case atStart=>exact⟨0,by omega,rfl,oR,d8.O⟩
 case round=>
  obtain⟨k,e9,rfl,E,u⟩:=hrel;have b9:=E.J bp.O br.O.1;have ab:=E.J d4.O br.O.2;have bo:=b9.I 2;simp[] at bo;have dv:=ab.I 5;simp[] at dv
  by_cases D:k<al
  ·obtain⟨y,a2⟩ :∃y,t.args[k]?=some y:=⟨t.args[k]'(by rw[<-m.O.2.1];exact D),gG _⟩
   rcases bt.O with⟨_,T⟩|⟨b0,a5,rfl,_,c3⟩
   ·rw[T] at a2;cases a2
   have H:=(c3 k (by rw[<-m.O.2.1];exact D)).2;rw[yc,a2,zU] at H;have dk:b0≠e:=λT=>by have:=block_lt_of_cell H;rw[cw.O,T] at this;exact absurd this (yQ _)
   have e6:=(E.I (p:=⟨b0,a5+k,none⟩) (lL (block_lt_of_cell H) bx.O.size) dk).trans ((bx.O.I (p:=⟨b0,a5+k,none⟩) (block_lt_of_cell H) nF).trans H);have bb:k<rl:=lL D v.O.2.2;have b8:al<=1000:=lT v.O.2.2 (lT v.O.2.1 (by decide));obtain⟨eb,ec⟩:=ca D;obtain⟨_,ee⟩:=ca bb;have dm:=cG D b8;have ea:=(aR _).trans dm;have e7:=u.fz k;have c9:=u.I k;have C:=tV (rl:=rl) (xs:=t.args.take k) (by rw[ze,<-m.O.2.1];omega);rw[zi,yJ,gG (by rw[C];exact bb),yU] at c9;generalize (kW rl (t.args.take k))[k]'(by rw[C];exact bb)=z0 at c9;have aw:=hD u;have aE:=hD E;have d5:=hD a2;have e3:=hD (aI C b8);clear E u b9 ab a2 c3 H C b8;go_wp2_with fail
   go_still_tail 10,(by kernel_rfl)
   change wpList _ _ _ _ _ wr.drew;go_wp2_with fail;refine⟨⟨k+1,D,rfl,(aE.O.trans (af _ _ _ _)).drew,?_⟩,au rfl D⟩;have:=(aw.O.s_ k (.int .i64 y)).drew;rw[pL,A3 d5.O (by rw[<-m.O.2.1];exact v.O.2.2)] at this;exact this
  ·have e8:¬(k:Int)<(al:Int):=by omega
   have cd:k=al:=by omega
   have aw:=hD u;have aE:=hD E;have bq:=hD ab;have d1:=hD cd;clear E u b9 ab cd;go_wp2_with fail;go_ret
   have c8:kW rl (t.args.take k)=gW p t.fn t.args:=by
    unfold kW gW;rw[d1.O,m.O.2.1,zr,<-m.O.2.2.2,v.O.1,yo]
   have C:(gW p t.fn t.args).length=rl:=by
    rw[<-c8];exact tV (by rw[ze,<-m.O.2.1];have:=v.O.2.2;omega)
   have b6:=aw.O;rw[c8] at b6;refine⟨e+1,e,rl,rfl,⟨zJ az.O,bq.O.lt⟩,⟨az.O,b6.lt⟩,⟨?_,b6,⟨rfl,.inl ⟨rfl,rfl⟩⟩,by rw[C];exact lR⟩,d3.O.trans' aE.O (λb u=>.inr (by rw[u];exact az.O))⟩;unfold cT;simp only;rw[<-m.O.1,C,<-m.O.2.1,m.O.2.2.1];exact bq.O
section
variable {w w':World}{rb:Nat}{L:gO}{p:List ah}{t:aj}{s:eh}
theorem cu.kp{S:Nat->Prop}(c:cu w rb L p t s)(e:aa S w w')(f:¬S rb)(g:¬S L.gb)(i:∀b,L.iv.ownBlock=some b->¬S b):cu w' rb L p t s:=
 ⟨e.J c.J f,e.J c.rg g,e.owns c.into i,c.cap⟩
theorem cu.U(c:cu w rb L p t s)(e:ac w w'):cu w' rb L p t s:=c.kp e nF nF nG
theorem cu.td{s':eh}(c:cu w rb L p t s)(g:aa (λb=>b=rb) w w')(j:ae w' rb 112 (cT L p.length t s'))(f:s'.rg=s.rg)(i:s'.into=s.into):cu w' rb L p t s':=by
 refine⟨j,?_,?_,by rw[f];exact c.cap⟩
 ·rw[f];exact g.J c.rg (λe=>ae.ne_ c.rg c.J (by decide) e)
 ·rw[i];exact g.owns c.into (λk l e=>aB c.into c.J (by decide) (by rw[l,e]))
theorem cu.at_set(c:cu w rb L p t s)(a:Int):cu (w.setCell ⟨rb,6,none⟩ (.int .i64 a)) rb L p t {s with at_:=a}:=
 c.td (af _ _ _ _) (c.J.s_ 6 _) rfl rfl
theorem cu.left_set(c:cu w rb L p t s)(a:Nat):cu (w.setCell ⟨rb,7,none⟩ (.int .i64 (a:Int))) rb L p t {s with left:=a}:=
 c.td (af _ _ _ _) (c.J.s_ 7 _) rfl rfl
theorem cu.kids_set(c:cu w rb L p t s)(a:Nat):cu (w.setCell ⟨rb,8,none⟩ (.int .i64 (a:Int))) rb L p t {s with kd:=a}:=
 c.td (af _ _ _ _) (c.J.s_ 8 _) rfl rfl
theorem cu.first_set(c:cu w rb L p t s)(a:Nat):cu (w.setCell ⟨rb,9,none⟩ (.int .i64 (a:Int))) rb L p t {s with first:=a}:=
 c.td (af _ _ _ _) (c.J.s_ 9 _) rfl rfl
theorem cu.reg_set(c:cu w rb L p t s)(k:Nat)(x:Int):cu (w.setCell ⟨L.gb,k,none⟩ (.int .i64 x)) rb L p t {s with rg:=s.rg.set k x}:=by
 have o:=af w L.gb k (.int .i64 x);refine⟨?_,?_,o.owns c.into (λb f e=>aB c.into c.rg (by decide) (by rw[f,e])),by simpa using c.cap⟩
 ·have:=o.J c.J (λe=>ae.ne_ c.rg c.J (by decide) e.symm)
  unfold cT at this ⊢;simp only[yI];exact this
 ·have:=c.rg.s_ k (.int .i64 x)
  rw[pL] at this;exact this
theorem cu.reg(c:cu w rb L p t s){k:Nat}(e:k<s.rg.length):w.cell? ⟨L.gb,k,none⟩=some (.int .i64 (s.rg.getD k 0)):=by
 rw[c.rg.I];simp[yc,e]
end
def lE(w w':World)(rb:Nat)(L:gO)(p:List ah)(t:aj)(s:eh)(o:bI)(e:Ending):Prop:=
 (match dE o s.rg (s.at_+1) with
  |none=>e=.returned (.int .i64 131)/\cu w' rb L p t {s with at_:=s.at_+1}
  |some x=>e=.returned (.int .i64 0)/\cu w' rb L p t {s with rg:=x.1,at_:=x.2})/\aa (λb=>b=rb\/b=L.gb) w w'
theorem jR{x:Int}(c:0<=x)(e:x<=64):wrap64 (x+1)=x+1:=by unfold wrap64;omega
section
variable {w:World}{rb:Nat}{L:gO}{p:List ah}{t:aj}{s:eh}(d a b:Nat)(n:Int)
theorem En(H:cu w rb L p t s)(v:0<=s.at_)(x:s.at_<=64)(f:d<s.rg.length):Calls Tryz.prog 81 #[.pointer (some ⟨rb,0,none⟩),cR ⟨1,d,a,b,n⟩] w λc w'=>lE w w' rb L p t s ⟨1,d,a,b,n⟩ c:=by
 unfold cR;have C:=hD f;clear f;obtain⟨i,l⟩:=eX (w.alloc (.cells #[.int .u8 1,.int .i64 (d:Int),.int .i64 (a:Int),.int .i64 (b:Int),.int .i64 n] 106));have z:ac w i:=by rw[l];exact(aa.refl _ w).alloc _
 obtain⟨g,y⟩:=eX w.heap.size;have F:ae i g 106 #[.int .u8 1,.int .i64 (d:Int),.int .i64 (a:Int),.int .i64 (b:Int),.int .i64 n]:=by rw[l,y];exact bN
 have j:=H.U z;have G:=j.J.I 6;have T:=j.J.fz 6;simp[cT] at G;have K:=jR v x;have V:=(aR _).trans K;have W:=hD (aI v x);have A:=hD j;have B:=hD F;have P:=hD z;have D:=hD l.symm;have N:=hD y;clear H v x l z y F j;go_enter Tryz.func81,Tryz.ntmps81;go_upto_region 1 with fail;rw[D.O,<-N.O];clear D;go_upto_region 2 with fail;obtain⟨E,u⟩:=eX (i.setCell ⟨rb,6,none⟩ (.int .i64 (s.at_+1)));rw[<-u];have e:=A.O.at_set (s.at_+1);have o:=af i rb 6 (.int .i64 (s.at_+1));rw[<-u] at e o;have r:=o.J B.O (λc=>ae.ne_ B.O A.O.J (by decide) c);have Q:Hd (aa (λb=>b=rb\/b=L.gb) w E):=hD ((P.O.mono λ_ c=>c.elim).trans (o.mono λb c=>.inl c));have q:=hD e;have X:=hD r;obtain⟨a4,a5,a6,a7,a8⟩:=r.gE5;obtain⟨rl,m⟩:=eX s.rg.length;have R:=e.J.I 5;simp[cT,<-m] at R;have a0:=e.J.fz 6;have S:=e.J.I 6;simp[cT] at S;have Y:=hD m;clear u e o r G T K V;have f:=C.O;rw[<-m] at f;obtain⟨a2,a3⟩:=ca f;have Z:=q.O.reg C.O;have a1:=q.O.rg.fz d;generalize s.rg.getD d 0=a9 at*;clear m;go_wp2_with fail
 go_still_tail 8,(by kernel_rfl)
 change wpList _ _ _ _ _ E.drew;go_wp2_with fail;go_ret;refine⟨⟨rfl,?_⟩,(Q.O.trans ((af _ _ _ _).mono λb c=>.inr c)).drew⟩;exact(q.O.reg_set d n).U oR.drew
theorem ET(D:cu w rb L p t s)(q:0<=s.at_)(r:s.at_<=64):Calls Tryz.prog 81 #[.pointer (some ⟨rb,0,none⟩),cR ⟨10,d,a,b,n⟩] w λc w'=>lE w w' rb L p t s ⟨10,d,a,b,n⟩ c:=by
 unfold cR;obtain⟨f,j⟩:=eX (w.alloc (.cells #[.int .u8 10,.int .i64 (d:Int),.int .i64 (a:Int),.int .i64 (b:Int),.int .i64 n] 106));have x:ac w f:=by rw[j];exact(aa.refl _ w).alloc _
 obtain⟨g,u⟩:=eX w.heap.size;have B:ae f g 106 #[.int .u8 10,.int .i64 (d:Int),.int .i64 (a:Int),.int .i64 (b:Int),.int .i64 n]:=by rw[j,u];exact bN
 have i:=D.U x;have C:=i.J.I 6;have R:=i.J.fz 6;simp[cT] at C;have E:=jR q r;have S:=(aR _).trans E;have T:=hD (aI q r);have y:=hD i;have z:=hD B;have H:=hD x;have A:=hD j.symm;have G:=hD u;clear D q r j x u B i;go_enter Tryz.func81,Tryz.ntmps81;go_upto_region 1 with fail;rw[A.O,<-G.O];clear A;go_upto_region 2 with fail;obtain⟨N,o⟩:=eX (f.setCell ⟨rb,6,none⟩ (.int .i64 (s.at_+1)));rw[<-o];have e:=y.O.at_set (s.at_+1);have l:=af f rb 6 (.int .i64 (s.at_+1));rw[<-o] at e l;have m:=l.J z.O (λc=>ae.ne_ z.O y.O.J (by decide) c);have K:Hd (aa (λb=>b=rb\/b=L.gb) w N):=hD ((H.O.mono λ_ c=>c.elim).trans (l.mono λb c=>.inl c));have F:=hD e;have V:=hD m;obtain⟨Y,Z,a0,a1,a2⟩:=m.gE5;obtain⟨rl,v⟩:=eX s.rg.length;have P:=e.J.I 5;simp[cT,<-v] at P;have X:=e.J.fz 6;have Q:=e.J.I 6;simp[cT] at Q;have W:=hD v;clear o e l m C R E S;clear v;go_wp2_with fail;go_ret;refine⟨⟨rfl,?_⟩,K.O.trans ((af _ _ _ _).mono λb c=>.inl c)⟩;exact F.O.at_set n
theorem EU(X:cu w rb L p t s)(B:0<=s.at_)(C:s.at_<=64)(Y:a<s.rg.length):Calls Tryz.prog 81 #[.pointer (some ⟨rb,0,none⟩),cR ⟨11,d,a,b,n⟩] w λc w'=>lE w w' rb L p t s ⟨11,d,a,b,n⟩ c:=by
 unfold cR;have P:=hD Y;clear Y;obtain⟨f,l⟩:=eX (w.alloc (.cells #[.int .u8 11,.int .i64 (d:Int),.int .i64 (a:Int),.int .i64 (b:Int),.int .i64 n] 106));have G:ac w f:=by rw[l];exact(aa.refl _ w).alloc _
 obtain⟨g,D⟩:=eX w.heap.size;have T:ae f g 106 #[.int .u8 11,.int .i64 (d:Int),.int .i64 (a:Int),.int .i64 (b:Int),.int .i64 n]:=by rw[l,D];exact bN
 have i:=X.U G;have W:=i.J.I 6;have ab:=i.J.fz 6;simp[cT] at W;have a0:=jR B C;have ad:=(aR _).trans a0;have av:=hD (aI B C);have K:=hD i;have N:=hD T;have a4:=hD G;have Q:=hD l.symm;have a3:=hD D;clear X B C l G D T i;go_enter Tryz.func81,Tryz.ntmps81;go_upto_region 1 with fail;rw[Q.O,<-a3.O];clear Q;go_upto_region 2 with fail;obtain⟨v,z⟩:=eX (f.setCell ⟨rb,6,none⟩ (.int .i64 (s.at_+1)));rw[<-z];have e:=K.O.at_set (s.at_+1);have o:=af f rb 6 (.int .i64 (s.at_+1));rw[<-z] at e o;have x:=o.J N.O (λc=>ae.ne_ N.O K.O.J (by decide) c);have S:Hd (aa (λb=>b=rb\/b=L.gb) w v):=hD ((a4.O.mono λ_ c=>c.elim).trans (o.mono λb c=>.inl c));have r:=hD e;have a2:=hD x;obtain⟨ai,al,am,an,ar⟩:=x.gE5;obtain⟨rl,m⟩:=eX s.rg.length;have a7:=e.J.I 5;simp[cT,<-m] at a7;have a9:=e.J.fz 6;have y:=e.J.I 6;simp[cT] at y;have aw:=hD m;clear z e o x W ab a0 ad;have Z:=P.O;rw[<-m] at Z;obtain⟨aE,b0⟩:=ca Z;have a8:=r.O.reg P.O;obtain⟨H,F⟩:=eX (s.rg.getD a 0);rw[<-F] at a8;have R:=hD F;clear m F
 by_cases E:H=0
 ·subst E
  have u:Hd (dE ⟨11,d,a,b,n⟩ s.rg (s.at_+1)=some (s.rg,s.at_+1)):=hD (by
   show some (s.rg,if ct s.rg (a:Int)≠0 then n else s.at_+1)=_;have:ct s.rg (a:Int)=0:=by unfold ct;rw[yo];exact R.O.symm
   rw[this,yb (by simp)])
  go_wp2_with fail
  go_quiet (fail)
  go_wp2_with fail;go_ret;unfold lE;rw[u.O];exact⟨⟨rfl,r.O.U (oR.drewN _)⟩,S.O.drewN _⟩
 ·have u:Hd (dE ⟨11,d,a,b,n⟩ s.rg (s.at_+1)=some (s.rg,n)):=hD (by
   show some (s.rg,if ct s.rg (a:Int)≠0 then n else s.at_+1)=_;have:ct s.rg (a:Int)=H:=by unfold ct;rw[yo];exact R.O.symm
   rw[this,yf E])
  have az:(H==0)=false:=bF E;go_wp2_with fail
  go_quiet (fail)
  obtain⟨a6,A⟩:=eX (v.drewN nq);rw[<-A];have q:ac v a6:=by rw[A];exact oR.drewN nq
  have j:=r.O.U q;have V:=q.J a2.O nF;have a5:=hD q;obtain⟨ai,al,am,an,ar⟩:=V.gE5;have a9:=j.J.fz 6;have y:=j.J.I 6;simp[cT] at y;have a1:=hD j;clear A q j V;go_wp2_with fail;go_ret;unfold lE;rw[u.O];exact⟨⟨rfl,a1.O.at_set n⟩,(S.O.trans (a5.O.mono λ_ c=>c.elim)).trans ((af _ _ _ _).mono λb c=>.inl c)⟩
theorem CX(aw:cu w rb L p t s)(a1:0<=s.at_)(a2:s.at_<=64)(P:a<s.rg.length)(aE:d<s.rg.length)(b1:∀x∈s.rg,jp x):Calls Tryz.prog 81 #[.pointer (some ⟨rb,0,none⟩),cR ⟨2,d,a,b,n⟩] w λc w'=>lE w w' rb L p t s ⟨2,d,a,b,n⟩ c:=by
 unfold cR;have v:=hD (aI P aE);have T:Hd (jp (s.rg.getD a 0)):=hD (by rw[yc,gG P];exact b1 _ (yN P));clear P aE b1;obtain⟨F,N⟩:=eX (w.alloc (.cells #[.int .u8 2,.int .i64 (d:Int),.int .i64 (a:Int),.int .i64 (b:Int),.int .i64 n] 106));have a6:ac w F:=by rw[N];exact(aa.refl _ w).alloc _
 obtain⟨g,a4⟩:=eX w.heap.size;have am:ae F g 106 #[.int .u8 2,.int .i64 (d:Int),.int .i64 (a:Int),.int .i64 (b:Int),.int .i64 n]:=by rw[N,a4];exact bN
 have K:=aw.U a6;have ar:=K.J.I 6;have ba:=K.J.fz 6;simp[cT] at ar;have b2:=jR a1 a2;have bb:=(aR _).trans b2;have bo:=hD (aI a1 a2);have a8:=hD K;have ab:=hD am;have b7:=hD a6;have ad:=hD N.symm;have b6:=hD a4;clear aw a1 a2 N a6 a4 am K;go_enter Tryz.func81,Tryz.ntmps81;go_upto_region 1 with fail;rw[ad.O,<-b6.O];clear ad;go_upto_region 2 with fail;obtain⟨al,a0⟩:=eX (F.setCell ⟨rb,6,none⟩ (.int .i64 (s.at_+1)));rw[<-a0];have q:=a8.O.at_set (s.at_+1);have R:=af F rb 6 (.int .i64 (s.at_+1));rw[<-a0] at q R;have Y:=R.J ab.O (λc=>ae.ne_ ab.O a8.O.J (by decide) c);have b8:Hd (aa (λb=>b=rb\/b=L.gb) w al):=hD ((b7.O.mono λ_ c=>c.elim).trans (R.mono λb c=>.inl c));have b3:=hD q;have b5:=hD Y;obtain⟨bf,a7,bk,bm,bn⟩:=Y.gE5;obtain⟨rl,Q⟩:=eX s.rg.length;have H:=q.J.I 5;simp[cT,<-Q] at H;have b9:=q.J.fz 6;have av:=q.J.I 6;simp[cT] at av;have E:=hD Q;clear a0 q R Y ar ba b2 bb;have a3:=v.O.1;rw[<-Q] at a3;obtain⟨br,bt⟩:=ca a3;obtain⟨j,a5⟩:=eX (s.rg.getD a 0);rw[<-a5] at T;have X:=hD a5;clear Q a5;go_upto_region 6 with fail;obtain⟨f,z⟩:=eX al;rw[<-z];have S:Hd (ae f g 106 #[.int .u8 2,.int .i64 (d:Int),.int .i64 (a:Int),.int .i64 (b:Int),.int .i64 n]):=hD (by rw[z];exact b5.O);have D:Hd (cu f rb L p t {s with at_:=s.at_+1}):=hD (by rw[z];exact b3.O);have ai:Hd (aa (λb=>b=rb\/b=L.gb) w f):=hD (by rw[z];exact b8.O);obtain⟨m,az⟩:=eX (0:Int);rw[<-az]
 have a9:Hd (dE ⟨2,d,a,b,n⟩ s.rg (s.at_+1)=(dt 2 j m).map λx=>(s.rg.set d x,s.at_+1)):=hD (by
  rw[X.O];rfl)
 clear z az bf a7 bk bm bn H b9 av a3
 cases hv:dt 2 j m with
 |none=>
  have u:Hd (∀W,Calls Tryz.prog 135 #[.int .u8 2,.int .i64 j,.int .i64 m] W λc w'=>c=.returned (.tuple #[.int .i64 0,.bool false])/\ac W w'):=hD λW=>by have:=ms 2 j m W (by first|omega|(have:=HK.O;omega)) T.O;rw[hv] at this;exact this
  have e:Hd (∀W,ac f W->ac f W/\W.cell? ⟨g,0,none⟩=some (.int .u8 2)/\W.cell? ⟨rb,5,none⟩=some (.slice (some ⟨L.gb,0,none⟩) rl L.rc)/\W.cell? ⟨g,2,none⟩=some (.int .i64 (a:Int))/\W.cell? ⟨L.gb,a,none⟩=some (.int .i64 j)):=hD λW l=>by
   have r:=(l.J S.O nF)
   have A:=(D.O.U l)
   have B:=A.reg v.O.1;have C:=A.J.I 5;simp[cT,<-E.O] at C;rw[<-X.O] at B;exact⟨l,r.I 0,C,r.I 2,B⟩
  have V:=hD hv;have Z:=e.O f oR;clear hv
  go_region_held3 (λw'=>ac f w'/\w'.cell? ⟨g,0,none⟩=some (.int .u8 2)/\w'.cell? ⟨rb,5,none⟩=some (.slice (some ⟨L.gb,0,none⟩) rl L.rc)/\w'.cell? ⟨g,2,none⟩=some (.int .i64 (a:Int))/\w'.cell? ⟨L.gb,a,none⟩=some (.int .i64 j))
   (first|with_reducible exact e.O _ oR|with_reducible exact e.O _ (aa.drew oR)|with_reducible exact e.O _ i|with_reducible exact e.O _ (aa.trans (aa.drew oR) i)|with_reducible exact e.O _ (aa.drew i)|with_reducible exact e.O _ (aa.drew (aa.trans (aa.drew oR) i))|fail)
   (first|(go_at_call 135;refine(u.O _).mono ?_;rintro c G ⟨rfl,i⟩)|fail)
  have o:Hd (ac f G):=hD (yt ‹_›);clear Z i u e;go_wp2_with fail;go_ret;unfold lE;rw[a9.O,V.O];exact⟨⟨rfl,D.O.U o.O⟩,ai.O.trans (o.O.mono λ_ c=>c.elim)⟩
 |some x=>
  have u:Hd (∀W,Calls Tryz.prog 135 #[.int .u8 2,.int .i64 j,.int .i64 m] W λc w'=>c=.returned (.tuple #[.int .i64 x,.bool true])/\ac W w'):=hD λW=>by have:=ms 2 j m W (by first|omega|(have:=HK.O;omega)) T.O;rw[hv] at this;exact this
  have e:Hd (∀W,ac f W->ac f W/\W.cell? ⟨g,0,none⟩=some (.int .u8 2)/\W.cell? ⟨rb,5,none⟩=some (.slice (some ⟨L.gb,0,none⟩) rl L.rc)/\W.cell? ⟨g,2,none⟩=some (.int .i64 (a:Int))/\W.cell? ⟨L.gb,a,none⟩=some (.int .i64 j)):=hD λW l=>by
   have r:=(l.J S.O nF)
   have A:=(D.O.U l)
   have B:=A.reg v.O.1;have C:=A.J.I 5;simp[cT,<-E.O] at C;rw[<-X.O] at B;exact⟨l,r.I 0,C,r.I 2,B⟩
  have V:=hD hv;have Z:=e.O f oR;clear hv
  go_region_held3 (λw'=>ac f w'/\w'.cell? ⟨g,0,none⟩=some (.int .u8 2)/\w'.cell? ⟨rb,5,none⟩=some (.slice (some ⟨L.gb,0,none⟩) rl L.rc)/\w'.cell? ⟨g,2,none⟩=some (.int .i64 (a:Int))/\w'.cell? ⟨L.gb,a,none⟩=some (.int .i64 j))
   (first|with_reducible exact e.O _ oR|with_reducible exact e.O _ (aa.drew oR)|with_reducible exact e.O _ i|with_reducible exact e.O _ (aa.trans (aa.drew oR) i)|with_reducible exact e.O _ (aa.drew i)|with_reducible exact e.O _ (aa.drew (aa.trans (aa.drew oR) i))|fail)
   (first|(go_at_call 135;refine(u.O _).mono ?_;rintro c G ⟨rfl,i⟩)|fail)
  have o:Hd (ac f G):=hD (yt ‹_›);clear Z i u e;have y:=D.O.U o.O;have an:=o.O.J S.O nF;have H:=y.J.I 5;simp[cT,<-E.O] at H;have a7:=an.I 1;simp at a7;have b0:=v.O.2;rw[<-E.O] at b0;obtain⟨bv,bx⟩:=ca b0;have bp:=y.reg v.O.2;have bq:=y.rg.fz d;generalize s.rg.getD d 0=r at*;have b4:=hD y;clear y an;go_wp2_with fail
  go_still_tail 7,(by kernel_rfl)
  change wpList _ _ _ _ _ G.drew;go_wp2_with fail;go_ret;unfold lE;rw[a9.O,V.O];exact⟨⟨rfl,(b4.O.reg_set d x).U oR.drew⟩,((ai.O.trans (o.O.mono λ_ c=>c.elim)).trans ((af _ _ _ _).mono λb c=>.inr c)).drew⟩
theorem CW(k:Int)(b9:3<=k/\k<=9)(b4:cu w rb L p t s)(a5:0<=s.at_)(a6:s.at_<=64)(P:a<s.rg.length)(b5:b<s.rg.length)(b6:d<s.rg.length)(b8:∀x∈s.rg,jp x):Calls Tryz.prog 81 #[.pointer (some ⟨rb,0,none⟩),cR ⟨k,d,a,b,n⟩] w λc w'=>lE w w' rb L p t s ⟨k,d,a,b,n⟩ c:=by
 unfold cR;have y:=hD (aI P b6);have ar:=hD b5;have X:Hd (jp (s.rg.getD a 0)):=hD (by rw[yc,gG P];exact b8 _ (yN P));have l:=hD b9;clear P b6 b8 b5 b9;obtain⟨F,N⟩:=eX (w.alloc (.cells #[.int .u8 k,.int .i64 (d:Int),.int .i64 (a:Int),.int .i64 (b:Int),.int .i64 n] 106));have ab:ac w F:=by rw[N];exact(aa.refl _ w).alloc _
 obtain⟨g,a9⟩:=eX w.heap.size;have aE:ae F g 106 #[.int .u8 k,.int .i64 (d:Int),.int .i64 (a:Int),.int .i64 (b:Int),.int .i64 n]:=by rw[N,a9];exact bN
 have K:=b4.U ab;have b1:=K.J.I 6;have bp:=K.J.fz 6;simp[cT] at b1;have ba:=jR a5 a6;have bq:=(aR _).trans ba;have bz:=hD (aI a5 a6);have ai:=hD K;have an:=hD aE;have bm:=hD ab;have av:=hD N.symm;have bk:=hD a9;clear b4 a5 a6 N ab a9 aE K;go_enter Tryz.func81,Tryz.ntmps81;go_upto_region 1 with fail;rw[av.O,<-bk.O];clear av;go_upto_region 2 with fail;obtain⟨Z,a3⟩:=eX (F.setCell ⟨rb,6,none⟩ (.int .i64 (s.at_+1)));rw[<-a3];have r:=ai.O.at_set (s.at_+1);have S:=af F rb 6 (.int .i64 (s.at_+1));rw[<-a3] at r S;have a0:=S.J an.O (λc=>ae.ne_ an.O ai.O.J (by decide) c);have bn:Hd (aa (λb=>b=rb\/b=L.gb) w Z):=hD ((bm.O.mono λ_ c=>c.elim).trans (S.mono λb c=>.inl c));have al:=hD r;have bf:=hD a0;obtain⟨br,ad,bt,bv,bx⟩:=a0.gE5;obtain⟨rl,Q⟩:=eX s.rg.length;have H:=r.J.I 5;simp[cT,<-Q] at H;have bo:=r.J.fz 6;have b2:=r.J.I 6;simp[cT] at b2;have E:=hD Q;clear a3 r S a0 b1 bp ba bq;have a7:=y.O.1;have a8:=ar.O;rw[<-Q] at a7 a8;obtain⟨c2,c3⟩:=ca a7;obtain⟨c4,c5⟩:=ca a8;obtain⟨j,R⟩:=eX (s.rg.getD a 0);obtain⟨o,a1⟩:=eX (s.rg.getD b 0);have b3:=al.O.reg ar.O;rw[<-a1] at b3;rw[<-R] at X;have aw:=hD R;have c6:(k==1)=false:=bF (by have:=l.O;omega);have c7:(k==10)=false:=bF (by have:=l.O;omega);have c8:(k==11)=false:=bF (by have:=l.O;omega);have c9:(k==2)=false:=bF (by have:=l.O;omega)
 have am:Hd (dE ⟨k,d,a,b,n⟩ s.rg (s.at_+1)=(dt k j o).map λx=>(s.rg.set d x,s.at_+1)):=hD (by
  have:=l.O;unfold dE;simp only;rw[yb (by omega),yb (by omega),yb (by omega),R,a1];unfold ct jh;simp only[yo]
  cases dt k (s.rg.getD a 0) (s.rg.getD b 0)<;>rfl)
 clear Q R a1;go_upto_region 5 with fail;go_wp2_with fail
 go_quiet (fail)
 obtain⟨f,a4⟩:=eX (Z.drewN nq);rw[<-a4];have T:ac Z f:=by rw[a4];exact oR.drewN nq
 have V:=hD (T.J bf.O nF);have D:=hD (al.O.U T);have az:Hd (aa (λb=>b=rb\/b=L.gb) w f):=hD (bn.O.trans (T.mono λ_ c=>c.elim));clear a4 T br ad bt bv bx H bo b2 a7 a8 b3;go_upto_region 6 with fail
 cases hv:dt k j o with
 |none=>
  have v:Hd (∀W,Calls Tryz.prog 135 #[.int .u8 k,.int .i64 j,.int .i64 o] W λc w'=>c=.returned (.tuple #[.int .i64 0,.bool false])/\ac W w'):=hD λW=>by have:=ms k j o W (by first|omega|(have:=l.O;omega)) X.O;rw[hv] at this;exact this
  have e:Hd (∀W,ac f W->ac f W/\W.cell? ⟨g,0,none⟩=some (.int .u8 k)/\W.cell? ⟨rb,5,none⟩=some (.slice (some ⟨L.gb,0,none⟩) rl L.rc)/\W.cell? ⟨g,2,none⟩=some (.int .i64 (a:Int))/\W.cell? ⟨L.gb,a,none⟩=some (.int .i64 j)):=hD λW m=>by
   have u:=(m.J V.O nF)
   have A:=(D.O.U m)
   have B:=A.reg y.O.1;have C:=A.J.I 5;simp[cT,<-E.O] at C;rw[<-aw.O] at B;exact⟨m,u.I 0,C,u.I 2,B⟩
  have Y:=hD hv;have a2:=e.O f oR;clear hv
  go_region_held3 (λw'=>ac f w'/\w'.cell? ⟨g,0,none⟩=some (.int .u8 k)/\w'.cell? ⟨rb,5,none⟩=some (.slice (some ⟨L.gb,0,none⟩) rl L.rc)/\w'.cell? ⟨g,2,none⟩=some (.int .i64 (a:Int))/\w'.cell? ⟨L.gb,a,none⟩=some (.int .i64 j))
   (first|with_reducible exact e.O _ oR|with_reducible exact e.O _ (aa.drew oR)|with_reducible exact e.O _ i|with_reducible exact e.O _ (aa.trans (aa.drew oR) i)|with_reducible exact e.O _ (aa.drew i)|with_reducible exact e.O _ (aa.drew (aa.trans (aa.drew oR) i))|fail)
   (first|(go_at_call 135;refine(v.O _).mono ?_;rintro c G ⟨rfl,i⟩)|fail)
  have q:Hd (ac f G):=hD (yt ‹_›);clear a2 i v e;go_wp2_with fail;go_ret;unfold lE;rw[am.O,Y.O];exact⟨⟨rfl,D.O.U q.O⟩,az.O.trans (q.O.mono λ_ c=>c.elim)⟩
 |some x=>
  have v:Hd (∀W,Calls Tryz.prog 135 #[.int .u8 k,.int .i64 j,.int .i64 o] W λc w'=>c=.returned (.tuple #[.int .i64 x,.bool true])/\ac W w'):=hD λW=>by have:=ms k j o W (by first|omega|(have:=l.O;omega)) X.O;rw[hv] at this;exact this
  have e:Hd (∀W,ac f W->ac f W/\W.cell? ⟨g,0,none⟩=some (.int .u8 k)/\W.cell? ⟨rb,5,none⟩=some (.slice (some ⟨L.gb,0,none⟩) rl L.rc)/\W.cell? ⟨g,2,none⟩=some (.int .i64 (a:Int))/\W.cell? ⟨L.gb,a,none⟩=some (.int .i64 j)):=hD λW m=>by
   have u:=(m.J V.O nF)
   have A:=(D.O.U m)
   have B:=A.reg y.O.1;have C:=A.J.I 5;simp[cT,<-E.O] at C;rw[<-aw.O] at B;exact⟨m,u.I 0,C,u.I 2,B⟩
  have Y:=hD hv;have a2:=e.O f oR;clear hv
  go_region_held3 (λw'=>ac f w'/\w'.cell? ⟨g,0,none⟩=some (.int .u8 k)/\w'.cell? ⟨rb,5,none⟩=some (.slice (some ⟨L.gb,0,none⟩) rl L.rc)/\w'.cell? ⟨g,2,none⟩=some (.int .i64 (a:Int))/\w'.cell? ⟨L.gb,a,none⟩=some (.int .i64 j))
   (first|with_reducible exact e.O _ oR|with_reducible exact e.O _ (aa.drew oR)|with_reducible exact e.O _ i|with_reducible exact e.O _ (aa.trans (aa.drew oR) i)|with_reducible exact e.O _ (aa.drew i)|with_reducible exact e.O _ (aa.drew (aa.trans (aa.drew oR) i))|fail)
   (first|(go_at_call 135;refine(v.O _).mono ?_;rintro c G ⟨rfl,i⟩)|fail)
  have q:Hd (ac f G):=hD (yt ‹_›);clear a2 i v e;have z:=D.O.U q.O;have b0:=q.O.J V.O nF;have H:=z.J.I 5;simp[cT,<-E.O] at H;have ad:=b0.I 1;simp at ad;have b7:=y.O.2;rw[<-E.O] at b7;obtain⟨cb,cd⟩:=ca b7;have c0:=z.reg y.O.2;have c1:=z.rg.fz d;generalize s.rg.getD d 0=u at*;have bb:=hD z;clear z b0;go_wp2_with fail
  go_still_tail 7,(by kernel_rfl)
  change wpList _ _ _ _ _ G.drew;go_wp2_with fail;go_ret;unfold lE;rw[am.O,Y.O];exact⟨⟨rfl,(bb.O.reg_set d x).U oR.drew⟩,((az.O.trans (q.O.mono λ_ c=>c.elim)).trans ((af _ _ _ _).mono λb c=>.inr c)).drew⟩
end
theorem Bs{w:World}{rb:Nat}{L:gO}{p:List ah}{t:aj}{s:eh}{x:ah}(o:bI)(A:sR p x o)(F:(s.rg.length:Int)=x.rg)(E:o.k<=11)(e:cu w rb L p t s)(f:0<=s.at_)(g:s.at_<=64)(l:∀x∈s.rg,jp x):
 Calls Tryz.prog 81 #[.pointer (some ⟨rb,0,none⟩),cR o] w λr w'=>lE w w' rb L p t s o r:=by
 obtain⟨k,d,a,b,n⟩:=o;obtain⟨G,D,B,C,H,j,i,q,_,_,_,_,_,_⟩:=A;simp only at*;obtain⟨d,rfl⟩ :∃c:Nat,d=c:=⟨d.toNat,by omega⟩
 obtain⟨a,rfl⟩ :∃c:Nat,a=c:=⟨a.toNat,by omega⟩
 obtain⟨b,rfl⟩ :∃c:Nat,b=c:=⟨b.toNat,by omega⟩
 by_cases u:k=1
 ·subst u
  exact En d a b n e f g (by have:=j (.inl (by decide));omega)
 by_cases z:k=2
 ·subst z
  exact CX d a b n e f g (by have:=i (.inl (by decide));omega) (by have:=j (.inl (by decide));omega) l
 by_cases v:k=10
 ·subst v
  exact ET d a b n e f g
 by_cases y:k=11
 ·subst y
  exact EU d a b n e f g (by have:=i (.inr (.inl rfl));omega)
 have m:3<=k/\k<=9:=by omega
 exact CW d a b n k m e f g (by have:=i (.inl (by omega));omega) (by have:=q m;omega) (by have:=j (.inl (by omega));omega) l
def kh(k:Int):Bool:=k !=12&&(k !=13&&k !=14)
theorem Ba(k d a b n:Int)(w:World):Calls Tryz.prog 80 #[.agg #[.int .u8 k,.int .i64 d,.int .i64 a,.int .i64 b,.int .i64 n]] w λA w'=>A=.returned (.bool (kh k))/\ac w w':=by
 by_cases r:k=12
 ·subst r
  rw[show kh 12=false from rfl];obtain⟨i,c⟩:=eX (w.alloc (.cells #[.int .u8 12,.int .i64 d,.int .i64 a,.int .i64 b,.int .i64 n] 106));have l:ac w i:=by rw[c];exact(aa.refl _ w).alloc _
  obtain⟨g,e⟩:=eX w.heap.size;have j:ae i g 106 #[.int .u8 12,.int .i64 d,.int .i64 a,.int .i64 b,.int .i64 n]:=by rw[c,e];exact bN
  have q:=j.I 0;simp[] at q;have o:=hD l;have f:=hD c.symm;have m:=hD e;clear c l e j;go_enter Tryz.func80,Tryz.ntmps80;go_upto_region 1 with fail;rw[f.O,<-m.O];clear f;go_wp2_with fail;go_ret;exact⟨rfl,o.O⟩
 have x:(k==12)=false:=bF r
 by_cases u:k=13
 ·subst u
  rw[show kh 13=false from rfl];obtain⟨i,c⟩:=eX (w.alloc (.cells #[.int .u8 13,.int .i64 d,.int .i64 a,.int .i64 b,.int .i64 n] 106));have l:ac w i:=by rw[c];exact(aa.refl _ w).alloc _
  obtain⟨g,e⟩:=eX w.heap.size;have j:ae i g 106 #[.int .u8 13,.int .i64 d,.int .i64 a,.int .i64 b,.int .i64 n]:=by rw[c,e];exact bN
  have q:=j.I 0;simp[] at q;have o:=hD l;have f:=hD c.symm;have m:=hD e;clear c l e j;go_enter Tryz.func80,Tryz.ntmps80;go_upto_region 1 with fail;rw[f.O,<-m.O];clear f;go_wp2_with fail;go_ret;exact⟨rfl,o.O⟩
 have y:(k==13)=false:=bF u
 by_cases v:k=14
 ·subst v
  rw[show kh 14=false from rfl];obtain⟨i,c⟩:=eX (w.alloc (.cells #[.int .u8 14,.int .i64 d,.int .i64 a,.int .i64 b,.int .i64 n] 106));have l:ac w i:=by rw[c];exact(aa.refl _ w).alloc _
  obtain⟨g,e⟩:=eX w.heap.size;have j:ae i g 106 #[.int .u8 14,.int .i64 d,.int .i64 a,.int .i64 b,.int .i64 n]:=by rw[c,e];exact bN
  have q:=j.I 0;simp[] at q;have o:=hD l;have f:=hD c.symm;have m:=hD e;clear c l e j;go_enter Tryz.func80,Tryz.ntmps80;go_upto_region 1 with fail;rw[f.O,<-m.O];clear f;go_wp2_with fail;go_ret;exact⟨rfl,o.O⟩
 have z:(k==14)=false:=bF v;rw[show kh k=true by unfold kh;simp[bne,x,y,z]];have B:(k !=12)=true:=by simp[bne,x]
 have C:(k !=13)=true:=by simp[bne,y]
 have D:(k !=14)=true:=by simp[bne,z]
 obtain⟨i,c⟩:=eX (w.alloc (.cells #[.int .u8 k,.int .i64 d,.int .i64 a,.int .i64 b,.int .i64 n] 106));have l:ac w i:=by rw[c];exact(aa.refl _ w).alloc _
 obtain⟨g,e⟩:=eX w.heap.size;have j:ae i g 106 #[.int .u8 k,.int .i64 d,.int .i64 a,.int .i64 b,.int .i64 n]:=by rw[c,e];exact bN
 have q:=j.I 0;simp[] at q;have o:=hD l;have f:=hD c.symm;have m:=hD e;clear c l e j;go_enter Tryz.func80,Tryz.ntmps80;go_upto_region 1 with fail;rw[f.O,<-m.O];clear f;go_wp2_with fail;go_ret;exact⟨rfl,o.O⟩
theorem FK:∀(l:List Value),l.length=5->∀e f g i j:Value,((((l.set 0 e).set 1 f).set 2 g).set 3 i).set 4 j= [e,f,g,i,j]
 | [],c,_,_,_,_,_=>nomatch c
 | [_],c,_,_,_,_,_=>nomatch c
 | [_,_],c,_,_,_,_,_=>nomatch c
 | [_,_,_],c,_,_,_,_,_=>nomatch c
 | [_,_,_,_],c,_,_,_,_,_=>nomatch c
 | [_,_,_,_,_],_,_,_,_,_,_=>rfl
 |_ :: _ :: _ :: _ :: _ :: _ :: _,c,_,_,_,_,_=>by simp at c
theorem Fm(cs:Array Value)(j:cs.size=5)(c e f g i:Value):((((cs.setIfInBounds 0 c).setIfInBounds 1 e).setIfInBounds 2 f).setIfInBounds 3 g).setIfInBounds 4 i= #[c,e,f,g,i]:=by
 apply Yd.1;simp only[zW];exact FK cs.toList (by simpa using j) c e f g i
theorem w7{w:World}{g:Nat}{T:TypeId}{cs:Array Value}(l:ae w g T cs)(m:cs.size=5)(c e f i j:Value):ae (((((w.setCell ⟨g,0,none⟩ c).setCell ⟨g,1,none⟩ e).setCell ⟨g,2,none⟩ f).setCell ⟨g,3,none⟩ i).setCell ⟨g,4,none⟩ j) g T #[c,e,f,i,j]/\aa (λb=>b=g) w (((((w.setCell ⟨g,0,none⟩ c).setCell ⟨g,1,none⟩ e).setCell ⟨g,2,none⟩ f).setCell ⟨g,3,none⟩ i).setCell ⟨g,4,none⟩ j):=by
 refine⟨?_,(af w g 0 c).trans ((af _ g 1 e).trans ((af _ g 2 f).trans ((af _ g 3 i).trans (af _ g 4 j))))⟩;rw[<-Fm cs m c e f i j];exact((((l.s_ 0 c).s_ 1 e).s_ 2 f).s_ 3 i).s_ 4 j
theorem ux{w:World}{g:Nat}{cs:Array Value}(c:ae w g 106 cs)(A:cs.size=5)(k d a b n:Int):(Instr.storeAt 106 (.pointer (some ⟨g,0,none⟩)) (.agg #[.int .u8 k,.int .i64 d,.int .i64 a,.int .i64 b,.int .i64 n])).run Tryz.prog w=.ok () (((((w.setCell ⟨g,0,none⟩ (.int .u8 k)).setCell ⟨g,1,none⟩ (.int .i64 d)).setCell ⟨g,2,none⟩ (.int .i64 a)).setCell ⟨g,3,none⟩ (.int .i64 b)).setCell ⟨g,4,none⟩ (.int .i64 n)):=by
 have e:=c.s_ 0 (.int .u8 k);have f:=e.s_ 1 (.int .i64 d);have i:=f.s_ 2 (.int .i64 a);have r:=i.s_ 3 (.int .i64 b);have j:=c.I 0;have u:=c.fz 0;have l:=e.I 1;have v:=e.fz 1;have m:=f.I 2;have x:=f.fz 2;have o:=i.I 3;have y:=i.fz 3;have q:=r.I 4;have z:=r.fz 4;simp[A] at j l m o q;simp[go_sem,Tryz.underlying106,j,l,m,o,q,u,v,x,y,z]
def eP(p:List ah)(t:aj)(s:eh):Int×eh:=
 let o:=bu p t.fn s.at_
 if s.left=0 then(130,s)
 else if o.k=12\/o.k=13\/o.k=14 then(0,{s with left:=s.left-1,at_:=s.at_+1})
 else match dE o s.rg (s.at_+1) with
  |none=>(131,{s with left:=s.left-1,at_:=s.at_+1})
  |some x=>(0,{s with left:=s.left-1,rg:=x.1,at_:=x.2})
def xB(w w':World)(rb:Nat)(L:gO)(p:List ah)(t:aj)(s:eh)(e:Ending):Prop:=
 e=.returned (.tuple #[cR (bu p t.fn s.at_),.int .i64 (eP p t s).1])/\cu w' rb L p t (eP p t s).2/\aa (λb=>b=rb\/b=L.gb) w w'
structure Fh(p:List ah)(t:aj)(s:eh):Prop where
 at0:0<=s.at_
 at1:s.at_<(bG p t.fn).ops.length
 rl:(s.rg.length:Int)=(bG p t.fn).rg
 ri:∀x∈s.rg,dJ x
 lf:s.left<=65536
theorem Bv(p:List ah)(F:Nat->Prop)(t:aj)(w:World)(rb:Nat)(L:gO)(s:eh)(dr:fN w F L.PA p)(dv:gC p)(R:bW p t)(G:cu w rb L p t s)(S:Fh p t s):
 Calls Tryz.prog 41 #[.pointer (some ⟨rb,0,none⟩)] w λe w'=>xB w w' rb L p t s e:=by
 obtain⟨n,cf⟩:=eX p.length;obtain⟨fn,bb⟩ :∃fn:Nat,t.fn=(fn:Int):=ym R.fn0;obtain⟨at_,a1⟩ :∃at_:Nat,s.at_=(at_:Int):=ym S.at0;obtain⟨x,T⟩:=eX (bG p t.fn);have e3:p[fn]?=some x:=by rw[T,<-(gk R.fn0 R.fn1).2,bb,yo]
 have ck:=dv.fn R.fn0 R.fn1;obtain⟨o,bo⟩:=eX (bu p t.fn s.at_);have ch:=kB (p:=p) (i:=t.fn) S.at0 S.at1;have cg:=ck.ops _ ch.1;have e6:x.ops[at_]?=some o:=by rw[T,bo,<-ch.2,a1,yo]
 rw[<-bo,<-T] at cg;have ci:=S.rl;rw[<-T] at ci;have bm:=S.at1;rw[<-T,a1] at bm;obtain⟨fb,fd⟩:=ca (fn:=fn) (n:=n) (by have:=R.fn1;rw[bb,<-cf] at this;exact yB.1 this);obtain⟨cp,bn⟩:=eX x.ops.length;rw[<-bn] at bm;obtain⟨ff,fj⟩:=ca (fn:=at_) (n:=cp) (yB.1 bm);have e0:s.at_<=64:=by have:=ck.o64;rw[<-T,<-bn] at this;rw[a1];omega
 obtain⟨D,b9⟩:=eX (w.alloc (.cells #[.int .u8 0,.int .i64 0,.int .i64 0,.int .i64 0,.int .i64 0] 106));have bp:ac w D:=by rw[b9];exact(aa.refl _ w).alloc _
 obtain⟨g,ce⟩:=eX w.heap.size;have dk:ae D g 106 #[.int .u8 0,.int .i64 0,.int .i64 0,.int .i64 0,.int .i64 0]:=by rw[b9,ce];exact bN
 have a9:=G.U bp;have b8:=a9.J.I 0;have c5:=a9.J.I 2;have X:=a9.J.I 6;simp[cT,<-cf] at b8;simp[cT,bb] at c5;simp[cT,a1] at X;have ds:=dr.U bp;obtain⟨b,br,B,dp,dq,_,_,cn,e2⟩:=ds.at_ e3;obtain⟨r,u,rfl,a2⟩:=e2.at_ e6;rw[dq] at b8;rw[<-bn] at cn;have bt:=a2 0 (.int .u8 o.k) rfl;have cq:=a2 1 (.int .i64 o.d) rfl;have cr:=a2 2 (.int .i64 o.a) rfl;have cs:=a2 3 (.int .i64 o.b) rfl;have cv:=a2 4 (.int .i64 o.n) rfl;rw[yW] at bt;obtain⟨k,d,a,c,f⟩:=o;simp only at bt cq cr cs cv;have e8:=hD a9;have d3:=hD dk;have eg:=hD bp;have b3:=hD bo;have d7:=hD cg;have d8:=hD b9.symm;have b0:=hD ce;have b4:=hD S;have bv:=hD (aI ci e0);have f3:=hD a1;clear dr dv R G S cf bb a1 T e3 ck bo ch cg e6 ci bm bn e0 b9 bp ce dk a9 ds dq e2 a2;go_enter Tryz.func41,Tryz.ntmps41;go_upto_region 1 with fail;rw[d8.O,<-b0.O];clear d8
 have d5:Hd (∀W,ac D W->ac D W/\W.cell? ⟨rb,0,none⟩=some (.slice (some ⟨b,br,none⟩) n L.pc)/\W.cell? ⟨rb,2,none⟩=some (.int .i64 (fn:Int))/\W.cell? ⟨rb,6,none⟩=some (.int .i64 (at_:Int))/\W.cell? ⟨b,br+fn*3+2,none⟩=some (.slice (some ⟨r,u,none⟩) cp dp)/\W.cell? ⟨r,u+at_*5,none⟩=some (.int .u8 k)/\W.cell? ⟨r,u+at_*5+1,none⟩=some (.int .i64 d)/\W.cell? ⟨r,u+at_*5+2,none⟩=some (.int .i64 a)/\W.cell? ⟨r,u+at_*5+3,none⟩=some (.int .i64 c)/\W.cell? ⟨r,u+at_*5+4,none⟩=some (.int .i64 f)):=hD λW A=>by
  have z:∀(b7 j:Nat) (v:Value),D.cell? ⟨b7,j,none⟩=some v->W.cell? ⟨b7,j,none⟩=some v:=λb7 j v hv=>(A.I (p:=⟨b7,j,none⟩) (block_lt_of_cell hv) nF).trans hv
  exact⟨A,z _ _ _ b8,z _ _ _ c5,z _ _ _ X,z _ _ _ cn,z _ _ _ bt,z _ _ _ cq,z _ _ _ cr,z _ _ _ cs,z _ _ _ cv⟩
 have l:=d5;have cb:=l.O D oR;clear d5 b8 c5 X cn bt cq cr cs cv
 go_region_held3 (λW=>ac D W/\W.cell? ⟨rb,0,none⟩=some (.slice (some ⟨b,br,none⟩) n L.pc)/\W.cell? ⟨rb,2,none⟩=some (.int .i64 (fn:Int))/\W.cell? ⟨rb,6,none⟩=some (.int .i64 (at_:Int))/\W.cell? ⟨b,br+fn*3+2,none⟩=some (.slice (some ⟨r,u,none⟩) cp dp)/\W.cell? ⟨r,u+at_*5,none⟩=some (.int .u8 k)/\W.cell? ⟨r,u+at_*5+1,none⟩=some (.int .i64 d)/\W.cell? ⟨r,u+at_*5+2,none⟩=some (.int .i64 a)/\W.cell? ⟨r,u+at_*5+3,none⟩=some (.int .i64 c)/\W.cell? ⟨r,u+at_*5+4,none⟩=some (.int .i64 f))
  (first|with_reducible exact l.O _ oR|with_reducible exact l.O _ (aa.drew oR)|with_reducible exact l.O _ (aa.alloc oR _)|with_reducible exact l.O _ (aa.alloc (aa.drew oR) _)|with_reducible exact l.O _ (aa.drew (aa.alloc oR _))|fail) (fail)
 obtain⟨a7,ba⟩:=eX ((D.alloc (.cells #[.int .u8 k,.int .i64 d,.int .i64 a,.int .i64 c,.int .i64 f] 106)).drew);obtain⟨q,bf⟩:=eX D.heap.size;rw[<-ba,<-bf];have bq:ac D a7:=by rw[ba];exact(oR.alloc _).drew
 have a8:ae a7 q 106 #[.int .u8 k,.int .i64 d,.int .i64 a,.int .i64 c,.int .i64 f]:=by rw[ba,bf];exact bN.drew
 have c2:=bq.J d3.O nF;have e1:g≠q:=λe=>by have:=d3.O.lt;rw[e,bf] at this;exact absurd this (yQ _)
 have c8:=e8.O.U bq;have K:=hD c8;have d4:=hD a8;have P:=hD c2;have ef:=hD e1;have bz:=hD (eg.O.trans bq);have c6:=c8.J.I 7;simp[cT] at c6;obtain⟨a3,bk⟩:=eX s.left;rw[<-bk] at c6;have b2:=hD bk
 have b5:Hd (eP p t s=if a3=0 then((130:Int),s) else if k=12\/k=13\/k=14 then(0,{s with left:=s.left-1,at_:=s.at_+1}) else match dE ⟨k,d,a,c,f⟩ s.rg (s.at_+1) with
  |none=>(131,{s with left:=s.left-1,at_:=s.at_+1})
  |some x=>(0,{s with left:=s.left-1,rg:=x.1,at_:=x.2})):=hD (by unfold eP;rw[<-b3.O,<-bk])
 clear cb l ba bf bq e1 c8 bk
 by_cases cm:a3=0
 ·subst cm
  obtain⟨cw,cB,d0,d1,d2⟩:=a8.gE5;clear c2 a8
  go_wp2_with (refine kr rfl 106 (.tmp 2) (.tmp 29) rfl rfl rfl (ux P.O rfl _ _ _ _ _) ?_)
  obtain⟨Y,Z⟩:=w7 P.O rfl (.int .u8 k) (.int .i64 d) (.int .i64 a) (.int .i64 c) (.int .i64 f);obtain⟨db,a0⟩:=eX ((((((a7.setCell ⟨g,0,none⟩ (.int .u8 k)).setCell ⟨g,1,none⟩ (.int .i64 d)).setCell ⟨g,2,none⟩ (.int .i64 a)).setCell ⟨g,3,none⟩ (.int .i64 c)).setCell ⟨g,4,none⟩ (.int .i64 f)));rw[<-a0] at Y Z;rw[<-a0];refine bodyPost_ret (aW Tryz.results41 rfl Y Tryz.underlying106 rfl (by kernel_rfl)) rfl ?_;have C:eP p t s=(130,s):=by rw[b5.O];simp
  refine⟨?_,?_,?_⟩
  ·rw[C,<-b3.O];rfl
  ·rw[C]
   exact K.O.kp Z (λe=>ae.ne_ P.O K.O.J (by decide) e.symm) (λe=>ae.ne_ P.O K.O.rg (by decide) e.symm) (λb al e=>aB K.O.into P.O (by decide) (by rw[al,e]))
  ·exact((bz.O.mono λ_ e=>e.elim).trans' Z (λb e=>.inr (by rw[e,b0.O];exact lR)))
 ·have f9:((a3:Int)==0)=false:=bF (by omega)
  have fa:¬(a3:Int)=0:=by omega
  obtain⟨H,dz⟩:=eX (a3-1:Nat);have e5:wrap64 ((a3:Int)-1)=(H:Int):=by have:=b4.O.lf;rw[<-b2.O] at this;unfold wrap64;omega
  have es:=(aR _).trans e5;have en:=K.O.J.fz 7;have V:=hD (aI cm dz);clear cm dz;obtain⟨cw,cB,d0,d1,d2⟩:=a8.gE5;clear c2 a8;go_upto_region 5 with fail;obtain⟨db,a0⟩:=eX (a7.setCell ⟨rb,7,none⟩ (.int .i64 (H:Int)));rw[<-a0];have c9:=K.O.left_set H;have an:=af a7 rb 7 (.int .i64 (H:Int));rw[<-a0] at c9 an;have c3:=an.J d4.O (λe=>ae.ne_ d4.O K.O.J (by decide) e);have dl:=an.J P.O (λe=>ae.ne_ P.O K.O.J (by decide) e);have e9:=hD c9;have eb:=hD c3;have ea:=hD dl;have d9:=hD an;have ei:=hD (Ba k d a c f db);obtain⟨v0,v1,v2,v3,v4⟩:=c3.gE5;clear a0 c9 an c3 dl cw cB d0 d1 d2 en e5 es c6;go_wp2_with fail;refine ei.O.mono ?_;rintro e E ⟨rfl,ar⟩;have da:=hD ar;have ab:=e9.O.U ar;have N:=hD ab;have c4:=ar.J eb.O nF;have a6:=hD c4;have a4:=hD (ar.J ea.O nF);clear ar v0 v1 v2 v3 v4
  by_cases am:k=12\/k=13\/k=14
  ·have eq:kh k=false:=by rcases am with e|e|e<;>subst e<;>rfl
   have X:=ab.J.I 6;have em:=ab.J.fz 6;simp[cT] at X;have e4:=jR b4.O.at0 bv.O.2;have er:=(aR _).trans e4;have b1:=hD am;clear ab c4 am;go_upto_region 7 with fail;obtain⟨dd,cd⟩:=eX (E.setCell ⟨rb,6,none⟩ (.int .i64 (s.at_+1)));rw[<-cd];have Y:=N.O.at_set (s.at_+1);have av:=af E rb 6 (.int .i64 (s.at_+1));rw[<-cd] at Y av;have dn:=av.J a6.O (λe=>ae.ne_ a6.O N.O.J (by decide) e);have dm:=av.J a4.O (λe=>ae.ne_ a4.O N.O.J (by decide) e);have ek:Hd (aa (λb=>b=rb\/b=L.gb) w dd):=hD ((((bz.O.mono λ_ e=>e.elim).trans (d9.O.mono λb e=>.inl e)).trans (da.O.mono λ_ e=>e.elim)).trans (av.mono λb e=>.inl e));have aw:=hD Y;have a5:=hD dm;obtain⟨cw,cB,d0,d1,d2⟩:=dn.gE5;clear cd Y av dn dm X em e4 er
   go_wp2_with (refine kr rfl 106 (.tmp 2) (.tmp 47) rfl rfl rfl (ux a5.O rfl _ _ _ _ _) ?_)
   have C:eP p t s=(0,{s with left:=H,at_:=s.at_+1}):=by
    rw[b5.O,yb V.O.1,yf b1.O,V.O.2,b2.O]
   obtain⟨ad,Q⟩:=w7 a5.O rfl (.int .u8 k) (.int .i64 d) (.int .i64 a) (.int .i64 c) (.int .i64 f);obtain⟨W9,ai⟩:=eX ((((((dd.setCell ⟨g,0,none⟩ (.int .u8 k)).setCell ⟨g,1,none⟩ (.int .i64 d)).setCell ⟨g,2,none⟩ (.int .i64 a)).setCell ⟨g,3,none⟩ (.int .i64 c)).setCell ⟨g,4,none⟩ (.int .i64 f)));rw[<-ai] at ad Q;rw[<-ai];refine bodyPost_ret (aW Tryz.results41 rfl ad Tryz.underlying106 rfl (by kernel_rfl)) rfl ?_;refine⟨?_,?_,?_⟩
   ·rw[C,<-b3.O];rfl
   ·rw[C]
    exact aw.O.kp Q (λe=>ae.ne_ a5.O aw.O.J (by decide) e.symm) (λe=>ae.ne_ a5.O aw.O.rg (by decide) e.symm) (λb al e=>aB aw.O.into a5.O (by decide) (by rw[al,e]))
   ·exact ek.O.trans' Q (λb e=>.inr (by rw[e,b0.O];exact lR))
  ·have dw:k<=11:=by have:=d7.O.k;simp only at this;omega
   have eq:kh k=true:=by
    unfold kh;simp only[bne,bF (show k≠12 by omega),bF (show k≠13 by omega),bF (show k≠14 by omega)];rfl
   have bx:Hd (∀W,ac E W->Calls Tryz.prog 81 #[.pointer (some ⟨rb,0,none⟩),.agg #[.int .u8 k,.int .i64 d,.int .i64 a,.int .i64 c,.int .i64 f]] W λe w'=>lE W w' rb L p t {s with left:=H} ⟨k,d,a,c,f⟩ e):=hD λW A=>
    Bs (s:={s with left:=H}) ⟨k,d,a,c,f⟩ d7.O bv.O.1 dw (N.O.U A) b4.O.at0 bv.O.2 b4.O.ri
   have b1:=hD am;clear ab c4 am dw;go_upto_region 8 with fail
   obtain⟨c7,s',C,ej⟩ :∃c7 s',eP p t s=(c7,s')/\Hd (∀W,ac E W->Calls Tryz.prog 81 #[.pointer (some ⟨rb,0,none⟩),.agg #[.int .u8 k,.int .i64 d,.int .i64 a,.int .i64 c,.int .i64 f]] W λe w'=>e=.returned (.int .i64 c7)/\cu w' rb L p t s'/\aa (λb=>b=rb\/b=L.gb) W w'):=by
    cases hpp:dE ⟨k,d,a,c,f⟩ s.rg (s.at_+1) with
    |none=>
     refine⟨131,{s with left:=H,at_:=s.at_+1},?_,hD λW A=>?_⟩
     ·rw[b5.O,yb V.O.1,yb b1.O,hpp,V.O.2,b2.O]
     ·have:=bx.O W A
      unfold lE at this;simp only[hpp] at this;exact this.mono λe w' G=>⟨G.1.1,G.1.2,G.2⟩
    |some y=>
     refine⟨0,{s with left:=H,rg:=y.1,at_:=y.2},?_,hD λW A=>?_⟩
     ·rw[b5.O,yb V.O.1,yb b1.O,hpp,V.O.2,b2.O]
     ·have:=bx.O W A
      unfold lE at this;simp only[hpp] at this;exact this.mono λe w' G=>⟨G.1.1,G.1.2,G.2⟩
   have ec:=hD C;clear C bx;have ee:Hd (¬(g=rb\/g=L.gb)):=hD (λe=>e.elim (ae.ne_ a4.O N.O.J (by decide)) (ae.ne_ a4.O N.O.rg (by decide)))
   have l:Hd (∀W,aa (λb=>b=rb\/b=L.gb\/b=g) E W->aa (λb=>b=rb\/b=L.gb\/b=g) E W/\W.cell? ⟨q,0,none⟩=some (.int .u8 k)/\W.cell? ⟨q,1,none⟩=some (.int .i64 d)/\W.cell? ⟨q,2,none⟩=some (.int .i64 a)/\W.cell? ⟨q,3,none⟩=some (.int .i64 c)/\W.cell? ⟨q,4,none⟩=some (.int .i64 f)):=hD λW A=>by
    have z:=A.J a6.O (λe=>e.elim (ae.ne_ a6.O N.O.J (by decide)) (λe=>e.elim (ae.ne_ a6.O N.O.rg (by decide)) (λe=>ef.O e.symm)));exact⟨A,z.I 0,z.I 1,z.I 2,z.I 3,z.I 4⟩
   have cb:=l.O E oR
   go_region_held3 (λW=>aa (λb=>b=rb\/b=L.gb\/b=g) E W/\W.cell? ⟨q,0,none⟩=some (.int .u8 k)/\W.cell? ⟨q,1,none⟩=some (.int .i64 d)/\W.cell? ⟨q,2,none⟩=some (.int .i64 a)/\W.cell? ⟨q,3,none⟩=some (.int .i64 c)/\W.cell? ⟨q,4,none⟩=some (.int .i64 f))
    (first|with_reducible exact l.O _ oR|with_reducible exact l.O _ (aa.drew oR)|with_reducible exact l.O _ c1.O|with_reducible exact l.O _ (aa.drew c1.O)|with_reducible exact l.O _ (aa.trans c1.O (aa.mono (And.right (w7 m rfl _ _ _ _ _)) (λb e=>Or.inr (Or.inr e))))|fail)
    (first
     |(go_at_call 81;refine(ej.O _ (aa.drew oR)).mono ?_;rintro e b6 ⟨rfl,Z,e7⟩;have c0:Hd (aa (λb=>b=rb\/b=L.gb) E b6):=hD (aa.trans (aa.drew oR) e7);have c1:Hd (aa (λb=>b=rb\/b=L.gb\/b=g) E b6):=hD (c0.O.mono λb e=>e.imp id λe=>.inl e);have az:=hD Z;clear Z e7;have m:=c0.O.J a4.O ee.O;have ex:=m.I 0;have f4:=m.fz 0;have eL:=m.I 1;have f5:=m.fz 1;have f0:=m.I 2;have f6:=m.fz 2;have f1:=m.I 3;have f7:=m.fz 3;have f2:=m.I 4;have f8:=m.fz 4;simp at ex eL f0 f1 f2)
     |fail)
   have C:=ec.O;have el:Hd (aa (λb=>b=rb\/b=L.gb) w b6):=hD ((((bz.O.mono λ_ e=>e.elim).trans (d9.O.mono λb e=>.inl e)).trans (da.O.mono λ_ e=>e.elim)).trans c0.O);have aE:=hD m;clear m cb;go_wp2_with fail;obtain⟨ad,Q⟩:=w7 aE.O rfl (.int .u8 k) (.int .i64 d) (.int .i64 a) (.int .i64 c) (.int .i64 f);obtain⟨W9,ai⟩:=eX ((((((b6.setCell ⟨g,0,none⟩ (.int .u8 k)).setCell ⟨g,1,none⟩ (.int .i64 d)).setCell ⟨g,2,none⟩ (.int .i64 a)).setCell ⟨g,3,none⟩ (.int .i64 c)).setCell ⟨g,4,none⟩ (.int .i64 f)));rw[<-ai] at ad Q;rw[<-ai];refine bodyPost_ret (aW Tryz.results41 rfl ad Tryz.underlying106 rfl (by kernel_rfl)) rfl ?_;refine⟨?_,?_,?_⟩
   ·rw[C,<-b3.O];rfl
   ·rw[C]
    exact az.O.kp Q (λe=>ae.ne_ aE.O az.O.J (by decide) e.symm) (λe=>ae.ne_ aE.O az.O.rg (by decide) e.symm) (λb al e=>aB az.O.into aE.O (by decide) (by rw[al,e]))
   ·exact el.O.trans' Q (λb e=>.inr (by rw[e,b0.O];exact lR))
def qr:Value:=.agg #[.string ⟨#[]⟩,.int .i64 0,.slice none 0 0,.int .i64 0]
def qu(w w':World)(rb:Nat)(L:gO)(p:List ah)(t:aj)(s:eh)(x:Int)(e:Ending):Prop:=
 e=.returned (.tuple #[qr,.int .i64 x])/\cu w' rb L p t s/\ac w w'
theorem FJ:∀(l:List Value),l.length=4->∀e f g i:Value,(((l.set 0 e).set 1 f).set 2 g).set 3 i= [e,f,g,i]
 | [],c,_,_,_,_=>nomatch c
 | [_],c,_,_,_,_=>nomatch c
 | [_,_],c,_,_,_,_=>nomatch c
 | [_,_,_],c,_,_,_,_=>nomatch c
 | [_,_,_,_],_,_,_,_,_=>rfl
 |_ :: _ :: _ :: _ :: _ :: _,c,_,_,_,_=>by simp at c
theorem Fl(cs:Array Value)(i:cs.size=4)(c e f g:Value):(((cs.setIfInBounds 0 c).setIfInBounds 1 e).setIfInBounds 2 f).setIfInBounds 3 g= #[c,e,f,g]:=by
 apply Yd.1;simp only[zW];exact FJ cs.toList (by simpa using i) c e f g
theorem wZ{w:World}{g:Nat}{T:TypeId}{cs:Array Value}(j:ae w g T cs)(l:cs.size=4)(c e f i:Value):ae ((((w.setCell ⟨g,0,none⟩ c).setCell ⟨g,1,none⟩ e).setCell ⟨g,2,none⟩ f).setCell ⟨g,3,none⟩ i) g T #[c,e,f,i]/\aa (λb=>b=g) w ((((w.setCell ⟨g,0,none⟩ c).setCell ⟨g,1,none⟩ e).setCell ⟨g,2,none⟩ f).setCell ⟨g,3,none⟩ i):=by
 refine⟨?_,(af w g 0 c).trans ((af _ g 1 e).trans ((af _ g 2 f).trans (af _ g 3 i)))⟩;rw[<-Fl cs l c e f i];exact(((j.s_ 0 c).s_ 1 e).s_ 2 f).s_ 3 i
theorem xh{w:World}{g:Nat}{cs:Array Value}(e:ae w g 30 cs)(y:cs.size=4)(a:ByteArray)(b d:Int)(A:Option Addr)(n c:Nat):(Instr.storeAt 30 (.pointer (some ⟨g,0,none⟩)) (.agg #[.string a,.int .i64 b,.slice A n c,.int .i64 d])).run Tryz.prog w=.ok () ((((w.setCell ⟨g,0,none⟩ (.string a)).setCell ⟨g,1,none⟩ (.int .i64 b)).setCell ⟨g,2,none⟩ (.slice A n c)).setCell ⟨g,3,none⟩ (.int .i64 d)):=by
 have f:=e.s_ 0 (.string a);have i:=f.s_ 1 (.int .i64 b);have q:=i.s_ 2 (.slice A n c);have j:=e.I 0;have r:=e.fz 0;have l:=f.I 1;have u:=f.fz 1;have m:=i.I 2;have v:=i.fz 2;have o:=q.I 3;have x:=q.fz 3;simp[y] at j l m o;simp[go_sem,Tryz.underlying30,j,l,m,o,r,u,v,x]
section
variable {w:World}{rb:Nat}{L:gO}{p:List ah}{t:aj}{s:eh}(k d a b n:Int)
theorem Bq(C:cu w rb L p t s)(F:s.kd=16):Calls Tryz.prog 42 #[.pointer (some ⟨rb,0,none⟩),cR ⟨k,d,a,b,n⟩] w λc w'=>qu w w' rb L p t s 132 c:=by
 unfold cR;obtain⟨f,j⟩:=eX (w.alloc (.cells #[.int .u8 k,.int .i64 d,.int .i64 a,.int .i64 b,.int .i64 n] 106));obtain⟨i,o⟩:=eX (f.alloc (.cells #[.string ⟨#[]⟩,.int .i64 0,.slice none 0 0,.int .i64 0] 30));have G:ac w f:=by rw[j];exact(aa.refl _ w).alloc _
 have v:ac f i:=by rw[o];exact oR.alloc _
 obtain⟨g,q⟩:=eX w.heap.size;have A:ae i g 106 #[.int .u8 k,.int .i64 d,.int .i64 a,.int .i64 b,.int .i64 n]:=v.J (by rw[j,q];exact bN) nF;have e:ae i (g+1) 30 #[.string ⟨#[]⟩,.int .i64 0,.slice none 0 0,.int .i64 0]:=by rw[o];have:=ae.new f 30 #[.string ⟨#[]⟩,.int .i64 0,.slice none 0 0,.int .i64 0];rw[show f.heap.size=g+1 by rw[j,q];simp] at this;exact this
 have x:=G.trans v;have r:=C.U x;have z:=hD (show((w.alloc (.cells #[.int .u8 k,.int .i64 d,.int .i64 a,.int .i64 b,.int .i64 n] 106)).alloc (.cells #[.string ⟨#[]⟩,.int .i64 0,.slice none 0 0,.int .i64 0] 30))=i by rw[o,j]);have l:=hD r;have N:=hD A;have m:=hD e;have H:=hD x;have y:=hD q;have B:=r.J.I 8;simp[cT] at B;rw[F] at B;obtain⟨T,V,W,X⟩:=e.gE4;have P:=e.fz 0;have Q:=e.fz 1;have R:=e.fz 2;have S:=e.fz 3;clear C F j o G v q A e x r;go_enter Tryz.func42,Tryz.ntmps42;go_upto_region 1 with fail;rw[z.O,<-y.O];clear z;go_wp2_with fail;obtain⟨D,u⟩:=wZ m.O rfl (.string ⟨#[]⟩) (.int .i64 0) (.slice none 0 0) (.int .i64 0);obtain⟨W9,E⟩:=eX (((((i.setCell ⟨g+1,0,none⟩ (.string ⟨#[]⟩)).setCell ⟨g+1,1,none⟩ (.int .i64 0)).setCell ⟨g+1,2,none⟩ (.slice none 0 0)).setCell ⟨g+1,3,none⟩ (.int .i64 0)));rw[<-E] at D u;rw[<-E];refine bodyPost_ret (aW Tryz.results42 rfl D Tryz.underlying30 rfl (by kernel_rfl)) rfl ?_;refine⟨rfl,?_,?_⟩
 ·exact l.O.kp u (λc=>ae.ne_ m.O l.O.J (by decide) c.symm) (λc=>ae.ne_ m.O l.O.rg (by decide) c.symm) (λb K c=>aB l.O.into m.O (by decide) (by rw[K,c]))
 ·exact H.O.trans' u (λb c=>.inr (by rw[c,y.O];exact yX _))
theorem Bp(Q:cu w rb L p t s)(i:s.kd<16)(Y:fT t.M)(X:t.M.length=12):Calls Tryz.prog 42 #[.pointer (some ⟨rb,0,none⟩),cR ⟨k,d,a,b,n⟩] w λc w'=>qu w w' rb L p t s 133 c:=by
 unfold cR;obtain⟨j,m⟩:=eX (w.alloc (.cells #[.int .u8 k,.int .i64 d,.int .i64 a,.int .i64 b,.int .i64 n] 106));obtain⟨e,v⟩:=eX (j.alloc (.cells #[.string ⟨#[]⟩,.int .i64 0,.slice none 0 0,.int .i64 0] 30));have a1:ac w j:=by rw[m];exact(aa.refl _ w).alloc _
 have B:ac j e:=by rw[v];exact oR.alloc _
 obtain⟨g,x⟩:=eX w.heap.size;have K:ae e g 106 #[.int .u8 k,.int .i64 d,.int .i64 a,.int .i64 b,.int .i64 n]:=B.J (by rw[m,x];exact bN) nF;have N:ae e (g+1) 30 #[.string ⟨#[]⟩,.int .i64 0,.slice none 0 0,.int .i64 0]:=by rw[v];have:=ae.new j 30 #[.string ⟨#[]⟩,.int .i64 0,.slice none 0 0,.int .i64 0];rw[show j.heap.size=g+1 by rw[m,x];simp] at this;exact this
 have C:=a1.trans B;have u:=Q.U C;have G:=hD (show((w.alloc (.cells #[.int .u8 k,.int .i64 d,.int .i64 a,.int .i64 b,.int .i64 n] 106)).alloc (.cells #[.string ⟨#[]⟩,.int .i64 0,.slice none 0 0,.int .i64 0] 30))=e by rw[v,m]);have a2:=hD u;have ab:=hD K;have a3:=hD N;have a4:=hD C;have E:=hD x;have P:=u.J.I 8;simp[cT] at P
 have F:Hd (∀W,Calls Tryz.prog 82 #[.string (sB t.M),.int .i64 ((s.kd:Int)+1)] W λc w'=>c=.returned (.tuple #[.string ByteArray.empty,.bool false])/\ac W w'):=hD λW=>by
  have:=sj t.M Y (s.kd+1) (Yh 1 _) i W;have c:=ky s.kd;rw[c] at this;unfold lV at this;rw[yf X] at this;exact this
 clear Y X;have Z:=kJ i;have a9:=(aR _).trans Z;have V:=sL i;have a8:decide ((16:Int)<=(s.kd:Int))=false:=yd V;obtain⟨a0,y⟩:=eX s.kd;rw[<-y] at P a9 Z V a8 i F
 have l:Hd (∀W,ac e W->ac e W/\W.cell? ⟨rb,1,none⟩=some (.string (sB t.M))/\W.cell? ⟨rb,8,none⟩=some (.int .i64 (a0:Int))):=hD λW S=>by
  have q:=(u.U S).J;refine⟨S,q.I 1,?_⟩;rw[q.I 8];simp[cT,<-y]
 have ad:=hD (aI y i);have a6:=l.O e oR;clear Q i m v a1 B x K N C u y;go_enter Tryz.func42,Tryz.ntmps42;go_upto_region 1 with fail;rw[G.O,<-E.O];clear G;go_upto_region 3 with fail
 go_region_held3 (λw'=>ac e w'/\w'.cell? ⟨rb,1,none⟩=some (.string (sB t.M))/\w'.cell? ⟨rb,8,none⟩=some (.int .i64 (a0:Int)))
  (first|exact l.O _ (yt ‹_›)|exact l.O _ (aa.drew (yt ‹_›))|exact l.O _ (aa.trans (aa.drew (yt ‹_›)) D)|exact l.O _ (aa.trans (yt ‹_›) D)|fail)
  (first|(go_at_call 82;refine(F.O _).mono ?_;rintro c H ⟨rfl,D⟩)|fail)
 have z:Hd (ac e H):=hD (yt ‹_›);clear a6 D;have f:=z.O.J a3.O nF;obtain⟨ar,av,aw,az⟩:=f.gE4;have ai:=f.fz 0;have al:=f.fz 1;have am:=f.fz 2;have an:=f.fz 3;have r:=hD f;have o:=hD (a2.O.U z.O);have a5:=hD (a4.O.trans z.O);clear f;go_wp2_with fail;obtain⟨R,A⟩:=wZ r.O rfl (.string ⟨#[]⟩) (.int .i64 0) (.slice none 0 0) (.int .i64 0);obtain⟨W9,T⟩:=eX (((((H.setCell ⟨g+1,0,none⟩ (.string ⟨#[]⟩)).setCell ⟨g+1,1,none⟩ (.int .i64 0)).setCell ⟨g+1,2,none⟩ (.slice none 0 0)).setCell ⟨g+1,3,none⟩ (.int .i64 0)));rw[<-T] at R A;rw[<-T];refine bodyPost_ret (aW Tryz.results42 rfl R Tryz.underlying30 rfl (by kernel_rfl)) rfl ?_;refine⟨rfl,?_,?_⟩
 ·exact o.O.kp A (λc=>ae.ne_ r.O o.O.J (by decide) c.symm) (λc=>ae.ne_ r.O o.O.rg (by decide) c.symm) (λb a7 c=>aB o.O.into r.O (by decide) (by rw[a7,c]))
 ·exact a5.O.trans' A (λb c=>.inr (by rw[c,E.O];exact yX _))
end
end
end Go.Proofs.YtmdocplknceilaaGreat
