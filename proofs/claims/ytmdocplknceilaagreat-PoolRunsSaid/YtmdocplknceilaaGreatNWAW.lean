import Derived.Test.YtmdocplknceilaaGreatNWAV
import Derived.Deep.RegionHeld3
set_option linter.all false
set_option maxRecDepth 100000
set_option maxHeartbeats 4000000
namespace Go.Proofs.YtmdocplknceilaaGreat
section
open Go.RowKit Go.Maps
theorem aL.by_map{w w':World}{F:Nat->Prop}{A:Option Addr}{xs:List Int}{P:Program}{k:TypeId}{mb:Nat}{f:Value->Option Value}{cnt:Nat}(c:aL w F A xs)(j:aa (λb=>b=mb) w w')(t:aN P w k mb f cnt):aL w' F A xs:=by
 rcases c with c|⟨b,o,g,q,d⟩
 ·exact .inl c
 ·by_cases e:0<xs.length
  ·obtain⟨s,u,l⟩:=q e
   have i:b≠mb:=t.ne l;exact .inr ⟨b,o,g,λ_=>⟨s,u,j.J l i⟩,λk a=>⟨(d k a).1,(j.I (p:=⟨b,o+k,none⟩) (block_lt_of_cell (d k a).2) i).trans (d k a).2⟩⟩
  ·exact .inr ⟨b,o,g,λm=>absurd m e,λk a=>absurd (by omega) e⟩
theorem qq{P:Program}{o:Oper}{a:Act}{b:Act->World->Prop}{Q:Exit->Act->World->Prop}{W:World}{k d t:TypeId}{mb:Nat}{f:Value->Option Value}{cnt:Nat}{key v:Value}{s:_}
 (e:aN P W k mb f cnt) (c:Keyed P k) (q:P.underlying t=some (.map k d)) (p:keyOf P k key=some s) (m:cnt<maxLen)
 (l:∀w',aN P w' k mb (iu f key (some v)) (if (f key).isSome then cnt else cnt+1)->aa (λx=>x=mb) W w'->b (a.put o.dst undef) w'):
 Oper.upon P o a b Q (((Instr.mapUpdate t (.map (some mb)) key v).run P W).andThen λa w'=>Result.ok Next.skip w'):=by
 obtain⟨w',g,i,j⟩:=e.put c q p m (v:=v);rw[g];exact l w' i j
section
variable {w w':World}{F F':Nat->Prop}{tb mb:Nat}{most:Int}{rows:Nm->Option aG}{cnt:Nat}{rp:Nm->Nat}{n:Nm}{r r':aG}
theorem xD(f:Int)(t:aj)(P:Bool)(A:Option Addr)(c:Nat)(an:Nat->Prop)(b8:∀b,F b->b<w.heap.size)(b6:bQ w F tb mb most rows cnt rp)(ab:dh ⟨f,t.M⟩)(ad:rows ⟨f,t.M⟩=none)(c7:(cnt:Int)<most)(C:most<=1000000)(b9:aL w an A t.args)(bm:t.args.length<=100000):
 Calls Tryz.prog 115 #[.pointer (some ⟨tb,0,none⟩),.int .u64 f,.agg (bO t A c),.bool P] w λe w'=>e=.returned (.int .i64 0)/\∃q,q<w'.heap.size/\w.heap.size<=q/\
  (∀r',r'.tk=t->r'.sa=1->r'.opn=0->r'.res=⟨0,0⟩->r'.fk=P->bQ w' (λb=>F b\/w.heap.size<=b/\b<w'.heap.size) tb mb most (ay rows ⟨f,t.M⟩ (some r')) (cnt+1) (λd=>open Classical in if d=⟨f,t.M⟩ then q else rp d))/\aa F w w':=by
 obtain⟨m,L⟩:=eX ((w.alloc (.cells #[.string (sB t.M),.int .i64 t.fn,.slice A t.args.length c,.int .i64 (t.fuel:Int)] 30)).alloc (.cells #[.int .u64 f,.string (sB t.M)] 58));have a4:ac w m:=by rw[L];exact((aa.refl _ w).alloc _).alloc _
 have K:=b6.kp a4 nG;have Z:ae m w.heap.size 30 #[.string (sB t.M),.int .i64 t.fn,.slice A t.args.length c,.int .i64 (t.fuel:Int)]:=by rw[L];exact bN.alloc _
 have a0:ae m (w.heap.size+1) 58 #[.int .u64 f,.string (sB t.M)]:=by
  rw[L,<-jt w (.cells #[.string (sB t.M),.int .i64 t.fn,.slice A t.args.length c,.int .i64 (t.fuel:Int)] 30)];exact bN
 have cb:∀k,(Instr.lookup 196 (.map (some mb)) (.agg #[.int .u64 f,.string (sB t.M)]) false).run Tryz.prog (m.drewN k)=.ok (.pointer none) (m.drewN k):=λk=>by
  have:=K.look ab (m.drewN k) rfl;rw[ad] at this;exact this
 have a2:∀W,ac m W->(Builtin.len_ #[196] 3 #[.map (some mb)]).run Tryz.prog W=.ok (.int .i64 (cnt:Int)) W:=λW s=>(K.kp s nG).map.len Tryz.underlying196 _
 have c0:=hD a2;have cB:decide (most<=(cnt:Int))=false:=yd (by omega);have bx:=hD (b9.kp a4 nG);obtain⟨l,T⟩:=eX t.args.length;obtain⟨g,R⟩:=eX w.heap.size;rw[<-R,<-T] at Z;rw[<-R] at a0;rw[<-T] at L;have a6:m.cell? ⟨tb,0,none⟩=some (.int .i64 most):=K.J.I 0;have a7:m.cell? ⟨tb,1,none⟩=some (.map (some mb)):=K.J.I 1;obtain⟨n0,ck⟩:=a0.gE2;obtain⟨cp,cq,cr,cv⟩:=Z.gE4;have E:=hD K;have ar:=hD Z;have av:=hD a0;have b1:=hD a4;have aw:=hD R;have b2:=hD ad;have az:=hD T;have aE:=hD bm;have b0:=hD ab;have b3:=hD L.symm;unfold bO;rw[<-T];have bt:Hd (cnt<maxLen):=hD (by unfold maxLen;omega);have bv:=hD b8;clear b6 a2 b8 K Z a0 a4 ad ab R L T bm b9 c7 C;go_enter Tryz.func115,Tryz.ntmps115;go_upto_region 2 with fail;rw[b3.O,<-aw.O];clear b3
 go_quiet (fail)
 clear cb a6 a7 n0 ck cp cq cr cv;obtain⟨G,a8⟩:=eX (m.drewN nq);rw[<-a8];have V:ac m G:=by rw[a8];exact oR.drewN nq
 have a2:=λk=>c0.O (G.drewN k) (V.drewN k)
 have a6:G.cell? ⟨tb,0,none⟩=some (.int .i64 most):=(E.O.kp V nG).J.I 0;have a7:G.cell? ⟨tb,1,none⟩=some (.map (some mb)):=(E.O.kp V nG).J.I 1;have b4:=hD V;clear V a8;go_wp2_with fail
 go_quiet (fail)
 obtain⟨p,a9⟩:=eX (G.drewN nq);rw[<-a9];clear a2 a6 a7;have bp:ac G p:=by rw[a9];exact oR.drewN nq
 have j:=hD ((b4.O).trans bp);clear bp a9 b4;go_upto_region 6 with fail
 have z:Hd (∀W,aa (λb=>b=mb) p W->aa (λb=>b=mb) p W/\W.cell? ⟨tb,1,none⟩=some (.map (some mb))/\W.cell? ⟨g+1,0,none⟩=some (.int .u64 f)/\W.cell? ⟨g+1,1,none⟩=some (.string (sB t.M))/\
  W.cell? ⟨g,0,none⟩=some (.string (sB t.M))/\W.cell? ⟨g,1,none⟩=some (.int .i64 t.fn)/\W.cell? ⟨g,2,none⟩=some (.slice A l c)/\W.cell? ⟨g,3,none⟩=some (.int .i64 (t.fuel:Int))):=hD λW s=>by
  have B:=E.O.kp j.O nG;have cn:=s.J B.J (B.map.ne B.J);have a5:=s.J (j.O.J ar.O nF) (B.map.ne (j.O.J ar.O nF));have bq:=s.J (j.O.J av.O nF) (B.map.ne (j.O.J av.O nF));exact⟨s,cn.I 1,bq.I 0,bq.I 1,a5.I 0,a5.I 1,a5.I 2,a5.I 3⟩
 have c2:Hd (∀W,aa (λb=>b=mb) p W->Calls Tryz.prog 104 #[.agg #[.string (sB t.M),.int .i64 t.fn,.slice A l c,.int .i64 (t.fuel:Int)]] W λe w'=>∃v c',e=.returned (.agg #[.string (sB t.M),.int .i64 t.fn,.slice v l c',.int .i64 (t.fuel:Int)])/\aL w' (λb=>W.heap.size<=b/\b<w'.heap.size) v t.args/\ac W w'):=hD λW s=>by
  have C:=(E.O.kp j.O nG).map;have:=rG t A c an W ((bx.O.kp j.O nG).by_map s C) aE.O;unfold bO at this;rw[<-az.O] at this;exact this
 have c1:Hd (∀W,ac p W->aN Tryz.prog W 58 mb (dY λn=>(rows n).map λ_=>.pointer (some ⟨rp n,0,none⟩)) cnt):=hD λW s=>((E.O.kp j.O nG).kp s nG).map
 obtain⟨d1,bk⟩:=b0.O.key;have bz:=hD bk;clear bk;have cw:=z.O p oR
 go_region_held3 (λw'=>aa (λb=>b=mb) p w'/\w'.cell? ⟨tb,1,none⟩=some (.map (some mb))/\w'.cell? ⟨g+1,0,none⟩=some (.int .u64 f)/\w'.cell? ⟨g+1,1,none⟩=some (.string (sB t.M))/\
  w'.cell? ⟨g,0,none⟩=some (.string (sB t.M))/\w'.cell? ⟨g,1,none⟩=some (.int .i64 t.fn)/\w'.cell? ⟨g,2,none⟩=some (.slice A l c)/\w'.cell? ⟨g,3,none⟩=some (.int .i64 (t.fuel:Int)))
  (first|exact z.O _ (aa.trans (yt ‹_›) am)|exact z.O _ (aa.drew (yt ‹_›))|exact z.O _ (yt ‹_›)|exact z.O _ (aa.alloc (yt ‹_›) _)|exact z.O _ (aa.alloc (aa.drew (yt ‹_›)) _)|exact z.O _ (aa.trans (aa.drew (yt ‹_›)) (aa.mono (S:=λ_=>False) X λ_ e=>e.elim))|fail)
  (first
   |(go_at_call 104;refine(c2.O _ (aa.drew (yt ‹_›))).mono ?_;rintro e u ⟨v,c',rfl,ce,X⟩)
   |(refine qq (c1.O _ (((oR.drew).trans X).alloc _)) fF Tryz.underlying196 bz.O bt.O ?_;intro b5 c6 am)
   |fail)
 go_wp2_with fail;go_ret;have R:=aw.O;have B:=E.O.kp j.O nG;have d2:=b1.O.size;have d3:=j.O.size;have d4:=X.size;have d5:p.drew.heap.size=p.heap.size:=rfl;have d7:=am.size;have cd:=jt u (.cells (bV ⟨f,t.M⟩ ⟨t,1,0,⟨0,0⟩,P,0,false⟩ v c') 208);obtain⟨Y,a1⟩:=eX (u.alloc (.cells (bV ⟨f,t.M⟩ ⟨t,1,0,⟨0,0⟩,P,0,false⟩ v c') 208));have bb:ae Y u.heap.size 208 (bV ⟨f,t.M⟩ ⟨t,1,0,⟨0,0⟩,P,0,false⟩ v c'):=by rw[a1];exact bN
 have D:aa (λx=>x=mb) Y b5:=by
  rw[a1];unfold bV;rw[<-az.O];exact am
 have al:ac u Y:=by rw[a1];exact oR.alloc _
 rw[<-a1] at cd;have cm:ac w Y:=(((b1.O.trans j.O).trans oR.drew).trans X).trans al;have i:=((B.kp oR.drew nG).kp X nG).kp al nG;have d8:=D.size;have c9:aL b5 (λb=>p.heap.size<=b/\b<u.heap.size) v t.args:=(ce.kp al nG).by_map D i.map;refine⟨rfl,u.heap.size,by omega,by omega,λr' ai cf cg ch ci=>?_,(cm.mono λ_ e=>e.elim).trans (D.mono λb e=>by rw[e];exact i.fm)⟩;have d0:∀d,rows d≠none->d≠⟨f,t.M⟩:=λd C e=>C (by rw[e];exact b2.O)
 have c8:dY (λd=>((ay rows ⟨f,t.M⟩ (some r')) d).map λ_=>Value.pointer (some ⟨(λd=>open Classical in if d=⟨f,t.M⟩ then u.heap.size else rp d) d,0,none⟩))=iu (dY λd=>(rows d).map λ_=>Value.pointer (some ⟨rp d,0,none⟩)) (aV ⟨f,t.M⟩) (some (.pointer (some ⟨u.heap.size,0,none⟩))):=by
  rw[lu]
  congr 1
  funext d
  by_cases e:d=⟨f,t.M⟩
  ·subst e
   simp[aA]
  ·simp[ag _ _ e,e]
 have bf:(dY (λd=>(rows d).map λ_=>Value.pointer (some ⟨rp d,0,none⟩)) (aV ⟨f,t.M⟩))=none:=by
  rw[gl,b2.O];rfl
 refine⟨.inl i.ft,.inl i.fm,D.J i.J (i.map.ne i.J),?_,λd q a3=>?_,λa b Q H bo=>?_⟩
 ·rw[c8]
  have:=c6;unfold aV eT;unfold aV eT at bf;rw[bf] at this;exact this
 ·by_cases e:d=⟨f,t.M⟩
  ·subst e
   rw[aA] at a3
   cases a3
   refine⟨?_,b0.O,by rw[ai];exact aE.O,v,c',?_,?_⟩
   ·simp only[yR]
    exact .inr ⟨by omega,by omega⟩
   ·simp only[yR]
    have:=D.J bb (i.map.ne bb);unfold bV at this ⊢;rw[ai,cf,cg,ch,ci];exact this
   ·rw[ai]
    exact c9.mo λb ba=>.inr ⟨by omega,by omega⟩
  ·rw[ag _ _ e] at a3
   obtain⟨Q,H,c4,br,c3,b7,c5⟩:=i.row d q a3;simp only[yb e];exact⟨.inl Q,H,c4,br,c3,D.J b7 (i.map.ne b7),(c5.by_map D i.map).mo λb ba=>.inl ba⟩
 ·have bn:∀d,rows d≠none->rp d≠u.heap.size:=λd C e=>by
   cases hx:rows d with
   |none=>exact C hx
   |some q=>
    have:=bv.O _ (i.row d q hx).1;omega
  by_cases N:a=⟨f,t.M⟩
  ·by_cases y:b=⟨f,t.M⟩
   ·exact absurd (N.trans y.symm) bo
   ·rw[ag _ _ y] at H
    simp only[yf N,yb y];exact λe=>bn b H e.symm
  ·rw[ag _ _ N] at Q
   by_cases y:b=⟨f,t.M⟩
   ·simp only[yb N,yf y]
    exact bn a Q
   ·rw[ag _ _ y] at H
    simp only[yb N,yb y];exact i.inj a b Q H bo
end
def kO(w w':World)(F:Nat->Prop)(tb mb:Nat)(most:Int)(rows:Nm->Option aG)(cnt:Nat)(rp:Nm->Nat)(n:Nm)(t:aj)(fk:Bool):Prop:=
 ∃q,q<w'.heap.size/\w.heap.size<=q/\∀r',r'.tk=t->r'.sa=1->r'.opn=0->r'.res=⟨0,0⟩->r'.fk=fk->bQ w' (λb=>F b\/w.heap.size<=b/\b<w'.heap.size) tb mb most (ay rows n (some r')) (cnt+1) (λm=>open Classical in if m=n then q else rp m)
section
variable {w w':World}{F F':Nat->Prop}{tb mb:Nat}{most:Int}{rows:Nm->Option aG}{cnt:Nat}{rp:Nm->Nat}{n:Nm}{r r':aG}
theorem kO.back{c:World}{t:aj}{a:Bool}(e:kO w w' F tb mb most rows cnt rp n t a)(s:c.heap.size<=w.heap.size):kO c w' F tb mb most rows cnt rp n t a:=by
 obtain⟨q,f,u,g⟩:=e;exact⟨q,f,by omega,λr' j k l m p=>(g r' j k l m p).mo λb i=>i.imp id λd=>⟨by omega,d.2⟩⟩
theorem ES(d:Int)(t:aj)(A:Option Addr)(c:Nat)(z:Nat->Prop)(G:∀b,F b->b<w.heap.size)(E:bQ w F tb mb most rows cnt rp)(x:dh ⟨d,t.M⟩)(P:rows ⟨d,t.M⟩=none)(K:(cnt:Int)<most)(N:most<=1000000)(H:aL w z A t.args)(L:t.args.length<=100000):
 Calls Tryz.prog 63 #[.pointer (some ⟨tb,0,none⟩),.int .u64 d,.agg (bO t A c)] w λa w'=>a=.returned (.int .i64 0)/\kO w w' F tb mb most rows cnt rp ⟨d,t.M⟩ t false/\aa F w w':=by
 obtain⟨i,e⟩:=eX (w.alloc (.cells #[.string (sB t.M),.int .i64 t.fn,.slice A t.args.length c,.int .i64 (t.fuel:Int)] 30));have f:ac w i:=by rw[e];exact(aa.refl _ w).alloc _
 have j:ae i w.heap.size 30 #[.string (sB t.M),.int .i64 t.fn,.slice A t.args.length c,.int .i64 (t.fuel:Int)]:=by rw[e];exact bN
 have s:=E.kp f nG;have a8:∀W:World,(binOp .eql 196 (.map (some mb)) (.map none)).run Tryz.prog W=.ok (.bool false) W:=λ_=>rfl
 have a7:i.cell? ⟨tb,1,none⟩=some (.map (some mb)):=s.J.I 1;have a0:=hD (lK t.M x.2)
 have m:Hd (∀W,ac i W->Calls Tryz.prog 115 #[.pointer (some ⟨tb,0,none⟩),.int .u64 d,.agg (bO t A c),.bool false] W λa w'=>a=.returned (.int .i64 0)/\kO W w' F tb mb most rows cnt rp ⟨d,t.M⟩ t false/\aa F W w'):=hD λW u=>by
  refine(xD d t false A c z (λb a6=>?_) (s.kp u nG) x P K N ((H.kp f nG).kp u nG) L).mono ?_
  ·have:=G b a6
   have:=f.size;have:=u.size;omega
  ·rintro a w' ⟨a1,q,a2,a3,a4,a5⟩
   exact⟨a1,⟨q,a2,a3,a4⟩,a5⟩
 obtain⟨l,k⟩:=eX t.args.length;obtain⟨g,v⟩:=eX w.heap.size;rw[<-v,<-k] at j;rw[<-k] at e;unfold bO at m ⊢;rw[<-k] at m ⊢;obtain⟨S,T,V,X⟩:=j.gE4;have B:=hD f;have Y:=hD j;have Z:=hD v;have C:=hD e.symm;clear G E s x P K N H L k v f j e;go_enter Tryz.func63,Tryz.ntmps63;go_upto_region 1 with fail;rw[C.O,<-Z.O];clear C;go_wp2_with fail;refine(a0.O _).mono ?_;rintro a a9 ⟨rfl,y⟩;have p:=hD y;clear S T V X;obtain⟨S,T,V,X⟩:=((y.J Y.O nF)).gE4;clear y;go_wp2_with fail;refine(m.O _ p.O).mono ?_;rintro a ab ⟨rfl,Q,R⟩;have D:=hD (aI Q R);clear Q R;go_wp2_with fail;go_ret;have ad:=B.O.size;have ai:=p.O.size;exact⟨rfl,D.O.1.back (by omega),((B.O.mono λ_ a=>a.elim).trans (p.O.mono λ_ a=>a.elim)).trans D.O.2⟩
theorem mD(q:Nat)(n:Nm)(r:aG)(A:Option Addr)(c:Nat)(l:List UInt8)(x:UInt8)(m:n.M=l++ [x])(y:fT n.M)(w:World)(v:ae w q 208 (bV n r A c)):
 Calls Tryz.prog 105 #[.pointer (some ⟨q,0,none⟩)] w λj w'=>j=.returned (.agg #[.int .u64 n.job,.string (sB l)])/\ac w w':=by
 obtain⟨u,d⟩:=eX (w.alloc (.cells #[.int .u64 0,.string ⟨#[]⟩] 58));have p:ac w u:=by rw[d];exact(aa.refl _ w).alloc _
 have i:ae u w.heap.size 58 #[.int .u64 0,.string ⟨#[]⟩]:=by rw[d];exact bN
 have k:=p.J v nF;have G:=hD (pB l x (by rw[<-m];exact y));obtain⟨g,e⟩:=eX w.heap.size;rw[<-e] at i;have z:=k.I 1;simp[bV,m] at z;have B:=hD k;have C:=hD i;have E:=hD p;have s:=hD e;have t:=hD d.symm;clear v k i p e d m y;go_enter Tryz.func105,Tryz.ntmps105;go_upto_region 1 with fail;rw[t.O,<-s.O];clear t;go_wp2_with fail;refine(G.O _).mono ?_;rintro j L ⟨rfl,f⟩;have H:=hD f;have a:=f.J C.O nF;have D:=hD a;have N:=(f.J B.O nF).I 0;simp[bV] at N;obtain⟨R,S⟩:=a.gE2;have P:=a.fz 0;have Q:=a.fz 1;clear f a z;go_wp2_with fail;have K:ae ((L.setCell ⟨g,0,none⟩ (.int .u64 n.job)).setCell ⟨g,1,none⟩ (.string (sB l))) g 58 #[.int .u64 n.job,.string (sB l)]:=(D.O.s_ 0 _).s_ 1 _;refine bodyPost_ret (bX Tryz.results105 rfl K Tryz.underlying58 rfl (by kernel_rfl)) rfl ?_;have e:=s.O;exact⟨rfl,(E.O.trans H.O).trans' ((af _ _ _ _).trans (af _ _ _ _)) (λb j=>.inr (by omega))⟩
end
def DD(w w':World)(F:Nat->Prop)(tb mb:Nat)(most:Int)(rows:Nm->Option aG)(cnt:Nat)(rp:Nm->Nat)(m n:Nm)(r:aG)(t:aj):Prop:=
 ∃q,q<w'.heap.size/\w.heap.size<=q/\∀r' r1,r'.tk=t->r'.sa=1->r'.opn=0->r'.res=⟨0,0⟩->r'.fk=true->r1.tk=r.tk->r1.sa=r.sa->r1.opn=r.opn+1->r1.res=r.res->r1.fk=r.fk->
  bQ w' (λb=>F b\/w.heap.size<=b/\b<w'.heap.size) tb mb most (ay (ay rows n (some r1)) m (some r')) (cnt+1) (λk=>open Classical in if k=m then q else rp k)
theorem BE{α:Type}(f:Nm->α){n b:Nm}(x y:α)(d:n≠b):ay (ay f n x) b y=ay (ay f b y) n x:=by
 funext k
 by_cases a:k=n
 ·subst a
  rw[ag _ _ d,aA,aA]
 ·by_cases c:k=b
  ·subst c
   rw[aA,ag _ _ a,aA]
  ·rw[ag _ _ c,ag _ _ a,ag _ _ a,ag _ _ c]
section
variable {w w':World}{F F':Nat->Prop}{tb mb:Nat}{most:Int}{rows:Nm->Option aG}{cnt:Nat}{rp:Nm->Nat}{n:Nm}{r r':aG}
theorem DQ(t:aj)(A:Option Addr)(c:Nat)(x:UInt8)(H:t.M=n.M++ [x])(a6:Nat->Prop)(am:∀b,F b->b<w.heap.size)(al:bQ w F tb mb most rows cnt rp)(aE:dh n)(a4:rows n=some r)(b1:r.sa=2)(bv:0<=r.opn/\r.opn<=100)
 (G:dh ⟨n.job,t.M⟩) (az:rows ⟨n.job,t.M⟩=none) (ar:(cnt:Int)<most) (aw:most<=1000000) (an:aL w a6 A t.args) (av:t.args.length<=100000):
 Calls Tryz.prog 141 #[.pointer (some ⟨tb,0,none⟩),aV n,.agg (bO t A c)] w λa w'=>a=.returned (.int .i64 0)/\DD w w' F tb mb most rows cnt rp ⟨n.job,t.M⟩ n r t/\aa F w w':=by
 obtain⟨i,e⟩:=eX (((w.alloc (.cells #[.int .u64 n.job,.string (sB n.M)] 58)).alloc (.cells #[.string (sB t.M),.int .i64 t.fn,.slice A t.args.length c,.int .i64 (t.fuel:Int)] 30)).alloc (.cells #[.int .u8 2] 5));have u:ac w i:=by rw[e];exact(((aa.refl _ w).alloc _).alloc _).alloc _
 have Z:ae i w.heap.size 58 #[.int .u64 n.job,.string (sB n.M)]:=by rw[e];exact(bN.alloc _).alloc _
 have D:ae i (w.heap.size+1) 30 #[.string (sB t.M),.int .i64 t.fn,.slice A t.args.length c,.int .i64 (t.fuel:Int)]:=by
  rw[e,<-jt w (.cells #[.int .u64 n.job,.string (sB n.M)] 58)];exact bN.alloc _
 have ai:ae i (w.heap.size+1+1) 5 (([2]:List Int).map (Value.int .u8)).toArray:=by
  rw[e,<-pq w (.cells #[.int .u64 n.job,.string (sB n.M)] 58) (.cells #[.string (sB t.M),.int .i64 t.fn,.slice A t.args.length c,.int .i64 (t.fuel:Int)] 30)];exact bN
 have E:=al.kp u nG;have X:=hD (lZ (w.heap.size+1+1) 1 [2] E aE a4 (by simp[b1]) (by decide) ai);have bk:=hD (lK t.M G.2);have a8:=hD (pB n.M x (by rw[<-H];exact G.2));rw[<-H] at a8;have cd:IntKind.i64.wrap (r.opn+1)=r.opn+1:=by unfold IntKind.wrap;simp[IntKind.bits,IntKind.signed];omega
 have ce:wrap64 (r.opn+1)=r.opn+1:=by unfold wrap64;omega
 have a1:∀W,ac i W->∀b,F b->b<W.heap.size:=λW k b m=>by
  have:=am b m;have:=u.size;have:=k.size;omega
 have S:Hd (∀W,ac i W->Calls Tryz.prog 115 #[.pointer (some ⟨tb,0,none⟩),.int .u64 n.job,.agg (bO t A c),.bool true] W λa w'=>a=.returned (.int .i64 0)/\kO W w' F tb mb most rows cnt rp ⟨n.job,t.M⟩ t true/\aa F W w'):=hD λW k=>by
  refine(xD n.job t true A c a6 (a1 W k) (E.kp k nG) G az ar aw ((an.kp u nG).kp k nG) av).mono ?_;rintro a w' ⟨bn,q,bo,bp,bq,br⟩;exact⟨bn,⟨q,bo,bp,bq⟩,br⟩
 obtain⟨l,a3⟩:=eX t.args.length;obtain⟨g,a2⟩:=eX w.heap.size;rw[<-a2] at Z D X;rw[<-a3] at D e;unfold bO at S ⊢;rw[<-a3] at S ⊢;have bm:=hD E;have Y:=hD a4;have a7:=hD u;have T:=hD Z;have V:=hD D;have bf:=hD a2;have a9:=hD e.symm;have c8:=hD a1
 have f:Hd (n≠⟨n.job,t.M⟩):=hD λa=>by
  have:=yl (λc5:Nm=>c5.M.length) a;simp[H] at this
 clear am a1 al E G a4 ar aw an av a3 a2 u Z D ai e aE az b1 bv H;unfold aV eT at X ⊢;go_enter Tryz.func141,Tryz.ntmps141;go_wp2_with fail;rw[a9.O,<-bf.O];refine X.O.mono ?_;rintro a cf ⟨rfl,N⟩;have ad:=hD N;obtain⟨v,y,z,B⟩:=((N.J V.O nF)).gE4;obtain⟨n0,s⟩:=((N.J T.O nF)).gE2;clear N a9;go_wp2_with fail;refine(a8.O _).mono ?_;rintro a cg ⟨rfl,b4⟩;have C:=hD (ad.O.trans b4);clear b4 ad v y z B n0 s;obtain⟨v,y,z,B⟩:=((C.O.J V.O nF)).gE4;obtain⟨n0,s⟩:=((C.O.J T.O nF)).gE2;go_wp2_with fail;refine(bk.O _).mono ?_;rintro a ch ⟨rfl,b5⟩;have j:=hD (C.O.trans b5);clear b5 C v y z B n0 s;obtain⟨v,y,z,B⟩:=((j.O.J V.O nF)).gE4;obtain⟨n0,s⟩:=((j.O.J T.O nF)).gE2;go_wp2_with fail;refine(S.O _ j.O).mono ?_;rintro a c6 ⟨rfl,K,L⟩;have ab:=hD (aI K L);obtain⟨q,b6,b7,Q⟩:=K;have p:=Q ⟨t,1,0,⟨0,0⟩,true,0,false⟩ rfl rfl rfl rfl rfl;obtain⟨b9,ba,bb,R,a0,d,a5⟩:=p.row n r (by rw[ag _ _ f.O];exact Y.O);rw[yb f.O] at d;have c7:=d.I 7;have c9:=d.fz 7;simp[bV] at c7;have cb:=d.lt;clear L b6 b7 Q p b9 ba bb d a5 v y z B n0 s;go_wp2_with fail;go_ret;obtain⟨q,b6,b7,Q⟩:=ab.O.1;have ci:=a7.O.size;have ck:=j.O.size;have P:=af c6 (rp n) 7 (.int .i64 (r.opn+1));refine⟨rfl,⟨q,by have:=P.size;omega,by omega,λr' b8 K L c2 c3 c4 b3 bx bz c0 c1=>?_⟩,?_⟩
 ·have p:=(Q r' K L c2 c3 c4)
  have b0:(ay rows ⟨n.job,t.M⟩ (some r')) n=some r:=by rw[ag _ _ f.O];exact Y.O
  obtain⟨b9,ba,bb,R,a0,d,a5⟩:=p.row n r b0
  have b2:=p.turn (r':=b8) b0 (by rw[yb f.O];exact P) b3 d a5 (by
   rw[yb f.O] at d ⊢;have:=d.s_ 7 (.int .i64 (r.opn+1))
   have bt:(bV n r R a0).setIfInBounds 7 (.int .i64 (r.opn+1))=bV n b8 R a0:=by
    simp[bV,b3,bx,bz,c0,c1]
   rw[bt] at this;exact this)
  rw[<-BE _ _ _ f.O] at b2;exact b2.mo λb m=>m.imp id λa=>⟨by omega,lL a.2 P.size⟩
 ·have m:F (rp n):=(bm.O.row n r Y.O).1
  exact(((a7.O.mono λ_ a=>a.elim).trans (j.O.mono λ_ a=>a.elim)).trans ab.O.2).trans (P.mono λb a=>by rw[a];exact m)
end
def eO(x:aD):Value:=.agg #[.int .i64 x.v,.int .i64 x.e]
section
variable {w w':World}{F F':Nat->Prop}{tb mb:Nat}{most:Int}{rows:Nm->Option aG}{cnt:Nat}{rp:Nm->Nat}{n:Nm}{r r':aG}
theorem bQ.turn_eq(a:bQ w F tb mb most rows cnt rp)(d:rows n=some r)(f:aa (λb=>b=rp n) w w')(g:r'.tk=r.tk)(i:∀A c,ae w (rp n) 208 (bV n r A c)->ae w' (rp n) 208 (bV n r' A c)):bQ w' F tb mb most (ay rows n (some r')) cnt rp:=by
 obtain⟨k,l,m,A,c,e,j⟩:=a.row n r d;exact a.turn d f g e j (i A c e)
theorem aJ{w w':World}{g i:Nat}{u:Value}(a:aa (λb=>b=g) w w'):aa (λb=>b=g) w (w'.setCell ⟨g,i,none⟩ u):=a.setCell (p:=⟨g,i,none⟩) (.inl rfl) u
theorem w8(w:World)(o a b:Obj):(((w.alloc o).alloc a).alloc b).heap.size=w.heap.size+1+1+1:=by simp
theorem AW(x:aD)(a0:∀b,F b->b<w.heap.size)(Z:bQ w F tb mb most rows cnt rp)(N:dh n)(P:rows n=some r)(a6:r.sa=2\/r.sa=5)(a5:r.fk=false):
 Calls Tryz.prog 54 #[.pointer (some ⟨tb,0,none⟩),aV n,eO x] w λa w'=>a=.returned (.tuple #[.agg #[.int .u64 0,.string ⟨#[]⟩],.bool false,.int .i64 0])/\
  (∀d,d.tk=r.tk->d.sa=6->d.opn=r.opn->d.res=x->d.fk=r.fk->bQ w' F tb mb most (ay rows n (some d)) cnt rp)/\aa F w w':=by
 obtain⟨D,l⟩:=eX ((((w.alloc (.cells #[.int .u64 n.job,.string (sB n.M)] 58)).alloc (.cells #[.int .i64 x.v,.int .i64 x.e] 35)).alloc (.cells #[.int .u64 0,.string ⟨#[]⟩] 58)).alloc (.cells #[.int .u8 2,.int .u8 5] 5));have Q:ac w D:=by rw[l];exact((((aa.refl _ w).alloc _).alloc _).alloc _).alloc _
 have H:ae D (w.heap.size+1) 35 #[.int .i64 x.v,.int .i64 x.e]:=by
  rw[l,<-jt w (.cells #[.int .u64 n.job,.string (sB n.M)] 58)];exact(bN.alloc _).alloc _
 have K:ae D (w.heap.size+1+1) 58 #[.int .u64 0,.string ⟨#[]⟩]:=by
  rw[l,<-pq w (.cells #[.int .u64 n.job,.string (sB n.M)] 58) (.cells #[.int .i64 x.v,.int .i64 x.e] 35)];exact bN.alloc _
 have Y:ae D (w.heap.size+1+1+1) 5 (([2,5]:List Int).map (Value.int .u8)).toArray:=by
  rw[l,<-w8 w (.cells #[.int .u64 n.job,.string (sB n.M)] 58) (.cells #[.int .i64 x.v,.int .i64 x.e] 35) (.cells #[.int .u64 0,.string ⟨#[]⟩] 58)];exact bN
 have L:=Z.kp Q nG;have G:=hD (lZ (w.heap.size+1+1+1) 2 [2,5] L N P (by rcases a6 with a|a<;>simp[a]) (by decide) Y);obtain⟨g,y⟩:=eX w.heap.size;rw[<-y] at H K G;have a1:∀b,F b->b<g:=λb e=>by rw[y];exact a0 b e
 have an:=hD a1;have T:=hD L;have S:=hD P;have ar:=hD Q;have E:=hD H;have i:=hD K;have R:=hD y;have b5:=hD N;have V:=hD l.symm;clear a0 a1 Z L N P a6 y Q H K Y l;unfold eO;unfold aV eT at G ⊢;go_enter Tryz.func54,Tryz.ntmps54;go_wp2_with fail;rw[V.O,<-R.O];refine G.O.mono ?_;rintro a t ⟨rfl,C⟩;have f:=hD C;obtain⟨k,B,m,A,c,p,q⟩:=T.O.row n r S.O;have e:=C.J p nF;have a2:=q.kp C nG;have j:=hD (aI k (aI m (aI e a2)));have ab:=e.I 6;have ad:=e.I 8;have ai:=e.I 9;have a9:=e.I 10;simp[bV,a5] at ab ad ai a9;have aw:=e.fz 6;have az:=e.fz 8;have aE:=e.fz 9;obtain⟨al,am⟩:=((C.J E.O nF)).gE2;clear C k B m p q e a2 V;go_wp2_with fail
 have a3:Hd (∀W,aa (λb=>b=rp n) t W->aa (λb=>b=rp n) t W/\W.cell? ⟨g+1,0,none⟩=some (.int .i64 x.v)/\W.cell? ⟨g+1,1,none⟩=some (.int .i64 x.e)):=hD λW a4=>by
  have a8:=a4.J (f.O.J E.O nF) (λa=>ae.ne_ (f.O.J E.O nF) j.O.2.2.1 (by decide) a);exact⟨a4,a8.I 0,a8.I 1⟩
 have b0:=a3.O t oR
 go_region_held3 (λw'=>aa (λb=>b=rp n) t w'/\w'.cell? ⟨g+1,0,none⟩=some (.int .i64 x.v)/\w'.cell? ⟨g+1,1,none⟩=some (.int .i64 x.e))
  (first|(refine a3.O _ ?_;repeat (first|with_reducible exact oR|with_reducible refine aa.drew ?_|with_reducible refine aJ ?_))|fail) (fail)
 obtain⟨u,z⟩:=eX ((((t.setCell ⟨rp n,6,none⟩ (.int .u8 6)).setCell ⟨rp n,8,none⟩ (.int .i64 x.v)).setCell ⟨rp n,9,none⟩ (.int .i64 x.e)).drew);rw[<-z];have s:aa (λb=>b=rp n) t u:=by rw[z];exact(aJ (aJ (af _ _ _ _))).drew
 have av:Hd (∀d,d.tk=r.tk->d.sa=6->d.opn=r.opn->d.res=x->d.fk=r.fk->bQ u F tb mb most (ay rows n (some d)) cnt rp):=hD λd k B m p q=>by
  refine(T.O.kp f.O nG).turn_eq S.O s k λA c e=>?_
  have:=((e.s_ 6 (.int .u8 6)).s_ 8 (.int .i64 x.v)).s_ 9 (.int .i64 x.e)
  have b3:(((bV n r A c).setIfInBounds 6 (.int .u8 6)).setIfInBounds 8 (.int .i64 x.v)).setIfInBounds 9 (.int .i64 x.e)=bV n d A c:=by
   simp[bV,k,B,m,p,q]
  rw[b3] at this;rw[z];exact this
 have X:=hD s
 have b4:u.cell? ⟨rp n,10,none⟩=some (.bool r.fk):=by
  have:=(((j.O.2.2.1.s_ 6 (.int .u8 6)).s_ 8 (.int .i64 x.v)).s_ 9 (.int .i64 x.e)).drew.I 10;rw[z,this];simp[bV]
 rw[a5] at b4;clear ab ad ai a9 aw az aE z b0;clear al am;obtain⟨al,am⟩:=((s.J (f.O.J i.O nF) (λa=>ae.ne_ (f.O.J i.O nF) j.O.2.2.1 (by decide) a))).gE2;have b6:=((s.J (f.O.J i.O nF) (λa=>ae.ne_ (f.O.J i.O nF) j.O.2.2.1 (by decide) a))).fz 0;have b7:=((s.J (f.O.J i.O nF) (λa=>ae.ne_ (f.O.J i.O nF) j.O.2.2.1 (by decide) a))).fz 1;clear s;go_wp2_with fail;have y:=R.O;have b1:=X.O.J (f.O.J i.O nF) (λa=>ae.ne_ (f.O.J i.O nF) j.O.2.2.1 (by decide) a);have b2:ae ((u.setCell ⟨g+1+1,0,none⟩ (.int .u64 0)).setCell ⟨g+1+1,1,none⟩ (.string ⟨#[]⟩)) (g+1+1) 58 #[.int .u64 0,.string ⟨#[]⟩]:=(b1.s_ 0 _).s_ 1 _;have a7:aa (λb=>b=g+1+1) u ((u.setCell ⟨g+1+1,0,none⟩ (.int .u64 0)).setCell ⟨g+1+1,1,none⟩ (.string ⟨#[]⟩)):=(af _ _ _ _).trans (af _ _ _ _);refine bodyPost_ret (jB Tryz.results54 rfl b2 Tryz.underlying58 rfl (by kernel_rfl)) rfl ?_;refine⟨rfl,λd k B m p q=>(av.O d k B m p q).kp a7 (λb e a=>by have:=an.O b e;omega),?_⟩;exact(((ar.O.mono λ_ a=>a.elim).trans (f.O.mono λ_ a=>a.elim)).trans (X.O.mono λb a=>by rw[a];exact j.O.1)).trans' a7 (λb a=>.inr (by omega))
theorem CK(x:aD)(d:Nm)(l:List UInt8)(u:UInt8)(p:aG)(a6:d=⟨n.job,l⟩)(a7:n.M=l++ [u])(ce:∀b,F b->b<w.heap.size)(cd:bQ w F tb mb most rows cnt rp)(bt:dh n)(bv:rows n=some r)(ck:r.sa=2\/r.sa=5)(a5:r.fk=true)
 (bx:rows d=some p) (d5:1<=p.opn/\p.opn<=100) (d7:0<p.opn-1\/p.sa≠3):
 Calls Tryz.prog 54 #[.pointer (some ⟨tb,0,none⟩),aV n,eO x] w λa w'=>a=.returned (.tuple #[.agg #[.int .u64 0,.string ⟨#[]⟩],.bool false,.int .i64 0])/\
  (∀f H,f.tk=r.tk->f.sa=6->f.opn=r.opn->f.res=x->f.fk=r.fk->H.tk=p.tk->H.sa=p.sa->H.opn=p.opn-1->H.res=p.res->H.fk=p.fk->bQ w' F tb mb most (ay (ay rows n (some f)) d (some H)) cnt rp)/\aa F w w':=by
 obtain⟨bp,Z⟩:=eX ((((w.alloc (.cells #[.int .u64 n.job,.string (sB n.M)] 58)).alloc (.cells #[.int .i64 x.v,.int .i64 x.e] 35)).alloc (.cells #[.int .u64 0,.string ⟨#[]⟩] 58)).alloc (.cells #[.int .u8 2,.int .u8 5] 5));have bz:ac w bp:=by rw[Z];exact((((aa.refl _ w).alloc _).alloc _).alloc _).alloc _
 have bq:ae bp (w.heap.size+1) 35 #[.int .i64 x.v,.int .i64 x.e]:=by
  rw[Z,<-jt w (.cells #[.int .u64 n.job,.string (sB n.M)] 58)];exact(bN.alloc _).alloc _
 have br:ae bp (w.heap.size+1+1) 58 #[.int .u64 0,.string ⟨#[]⟩]:=by
  rw[Z,<-pq w (.cells #[.int .u64 n.job,.string (sB n.M)] 58) (.cells #[.int .i64 x.v,.int .i64 x.e] 35)];exact bN.alloc _
 have c6:ae bp (w.heap.size+1+1+1) 5 (([2,5]:List Int).map (Value.int .u8)).toArray:=by
  rw[Z,<-w8 w (.cells #[.int .u64 n.job,.string (sB n.M)] 58) (.cells #[.int .i64 x.v,.int .i64 x.e] 35) (.cells #[.int .u64 0,.string ⟨#[]⟩] 58)];exact bN
 have T:=cd.kp bz nG;have a9:=hD (lZ (w.heap.size+1+1+1) 2 [2,5] T bt bv (by rcases ck with a|a<;>simp[a]) (by decide) c6);obtain⟨g,a1⟩:=eX w.heap.size;rw[<-a1] at bq br a9;have cf:∀b,F b->b<g:=λb e=>by rw[a1];exact ce b e
 have d1:=hD cf;have bn:=hD T;have bm:=hD bv;have d3:=hD bz;have a4:=hD bq;have bf:=hD br;have bk:=hD a1;have d2:=hD bt;have bo:=hD Z.symm
 by_cases d8:0<p.opn-1
 ·have d4:1<p.opn:=by omega
  have dk:decide (1<p.opn)=true:=yg d4;clear d7 d8
  have az:d≠n:=λa=>by
   have:=yl (λk:Nm=>k.M.length) a;simp[a6,a7] at this
  have V:=hD az;have X:=hD bx;have c3:=hD a7;have dm:IntKind.i64.wrap (p.opn-1)=p.opn-1:=by unfold IntKind.wrap;simp[IntKind.bits,IntKind.signed];omega
  have dn:wrap64 (p.opn-1)=p.opn-1:=by unfold wrap64;omega
  have ad:=hD a6;clear ce cf cd T bt bv ck a1 bz bq br c6 Z a6 a7 bx d5 az;unfold eO;unfold aV eT at a9 ⊢;go_enter Tryz.func54,Tryz.ntmps54;go_wp2_with fail;rw[bo.O,<-bk.O];refine a9.O.mono ?_;rintro a G ⟨rfl,Q⟩;have z:=hD Q;obtain⟨t,P,D,A,c,E,y⟩:=bn.O.row n r bm.O;have e:=Q.J E nF;have an:=y.kp Q nG;have R:=hD (aI t (aI D (aI e an)));have b7:=e.I 6;have b8:=e.I 8;have b9:=e.I 9;have b6:=e.I 10;simp[bV,a5] at b7 b8 b9 b6;have c8:=e.fz 6;have c9:=e.fz 8;have cb:=e.fz 9;obtain⟨ba,bb⟩:=((Q.J a4.O nF)).gE2;clear Q t P D E y e an bo;go_wp2_with fail
  have ar:Hd (∀W,aa (λb=>b=rp n) G W->aa (λb=>b=rp n) G W/\W.cell? ⟨g+1,0,none⟩=some (.int .i64 x.v)/\W.cell? ⟨g+1,1,none⟩=some (.int .i64 x.e)):=hD λW m=>by
   have b2:=m.J (z.O.J a4.O nF) (λa=>ae.ne_ (z.O.J a4.O nF) R.O.2.2.1 (by decide) a);exact⟨m,b2.I 0,b2.I 1⟩
  have Y:=ar.O G oR
  go_region_held3 (λw'=>aa (λb=>b=rp n) G w'/\w'.cell? ⟨g+1,0,none⟩=some (.int .i64 x.v)/\w'.cell? ⟨g+1,1,none⟩=some (.int .i64 x.e))
   (first|(refine ar.O _ ?_;repeat (first|with_reducible exact oR|with_reducible refine aa.drew ?_|with_reducible refine aJ ?_))|fail) (fail)
  obtain⟨j,N⟩:=eX ((((G.setCell ⟨rp n,6,none⟩ (.int .u8 6)).setCell ⟨rp n,8,none⟩ (.int .i64 x.v)).setCell ⟨rp n,9,none⟩ (.int .i64 x.e)).drew);rw[<-N];have a2:aa (λb=>b=rp n) G j:=by rw[N];exact(aJ (aJ (af _ _ _ _))).drew
  have ai:Hd (∀f,f.tk=r.tk->f.sa=6->f.opn=r.opn->f.res=x->f.fk=r.fk->bQ j F tb mb most (ay rows n (some f)) cnt rp):=hD λf t P D E y=>by
   refine(bn.O.kp z.O nG).turn_eq bm.O a2 t λA c e=>?_
   have:=((e.s_ 6 (.int .u8 6)).s_ 8 (.int .i64 x.v)).s_ 9 (.int .i64 x.e)
   have a0:(((bV n r A c).setIfInBounds 6 (.int .u8 6)).setIfInBounds 8 (.int .i64 x.v)).setIfInBounds 9 (.int .i64 x.e)=bV n f A c:=by
    simp[bV,t,P,D,E,y]
   rw[a0] at this;rw[N];exact this
  have al:=hD a2
  have cr:j.cell? ⟨rp n,10,none⟩=some (.bool r.fk):=by
   have:=(((R.O.2.2.1.s_ 6 (.int .u8 6)).s_ 8 (.int .i64 x.v)).s_ 9 (.int .i64 x.e)).drew.I 10;rw[N,this];simp[bV]
  rw[a5] at cr;clear b7 b8 b9 b6 c8 c9 cb N Y;clear ba bb;have B:=ai.O {r with sa:=6,res:=x} rfl rfl rfl rfl rfl;have c4:=hD B;have c7:j.cell? ⟨tb,1,none⟩=some (.map (some mb)):=B.J.I 1
  have c2:Hd (∀W,ac j W->Calls Tryz.prog 105 #[.pointer (some ⟨rp n,0,none⟩)] W λa w'=>a=.returned (.agg #[.int .u64 n.job,.string (sB l)])/\ac W w'):=hD λW m=>by
   obtain⟨a3,b3,b4,a8,am,i,b5⟩:=(B.kp m nG).row n _ (aA _ _ _);exact mD (rp n) n _ a8 am l u c3.O d2.O.2 W i
  have ab:Hd (∀W,ac j W->(Instr.lookup 196 (.map (some mb)) (.agg #[.int .u64 n.job,.string (sB l)]) false).run Tryz.prog W=.ok (.pointer (some ⟨rp d,0,none⟩)) W):=hD λW m=>by
   have aw:=B.kp m nG;have L:ay rows n (some {r with sa:=6,res:=x}) d=some p:=by rw[ag _ _ V.O];exact X.O
   have:=aw.look (n:=d) (aw.row d p L).2.1 W rfl;rw[L,ad.O] at this;rw[ad.O];exact this
  have K:Hd (∀W,ac j W->ac j W/\W.cell? ⟨tb,1,none⟩=some (.map (some mb))):=hD λW m=>⟨m,(B.kp m nG).J.I 1⟩
  have Y:=K.O j oR;clear B a2 c7;go_wp2_with fail;go_upto_region 7 with fail
  go_region_held3 (λw'=>ac j w'/\w'.cell? ⟨tb,1,none⟩=some (.map (some mb)))
   (first|exact K.O _ (yt ‹_›)|exact K.O _ (aa.drew (yt ‹_›))|exact K.O _ (aa.trans (aa.drew (yt ‹_›)) q)|exact K.O _ (aa.trans (yt ‹_›) q)|fail)
   (first
    |(go_at_call 105;refine(c2.O _ (by first|exact aa.drew (yt ‹_›)|exact yt ‹_›)).mono ?_;rintro a s ⟨rfl,q⟩;have ch:=ab.O s (by first|exact aa.trans (aa.drew (yt ‹_›)) q|exact aa.trans (yt ‹_›) q);have ci:=ab.O s.drew (by first|exact(aa.trans (aa.drew (yt ‹_›)) q).drew|exact(aa.trans (yt ‹_›) q).drew))
    |fail)
  have S:Hd (ac j s):=hD ((oR.drew).trans q);have av:=c4.O.kp S.O nG;have L:ay rows n (some {r with sa:=6,res:=x}) d=some p:=by rw[ag _ _ V.O];exact X.O
  obtain⟨a3,b3,b4,a8,am,i,b5⟩:=av.row d p L;have C:=(S.O.J (al.O.J (z.O.J bf.O nF) (λa=>ae.ne_ (z.O.J bf.O nF) R.O.2.2.1 (by decide) a)) nF)
  have c5:=hD (aI a3 i);have c0:=hD C;have c1:Hd (g+1+1≠rp d):=hD λa=>ae.ne_ C i (by decide) a
  have cv:=i.I 0;have cw:=i.I 1;have cB:=i.I 6;have d0:=i.I 7;simp[bV] at cv cw cB d0;have db:=i.fz 6;have dd:=i.fz 7;obtain⟨ba,bb⟩:=C.gE2;have d9:=C.fz 0;have da:=C.fz 1;clear ch ci Y q av L a3 b3 b4 i b5 C;go_wp2_with fail;have a1:=bk.O;have cg:ae (((s.setCell ⟨rp d,7,none⟩ (.int .i64 (p.opn-1))).setCell ⟨g+1+1,0,none⟩ (.int .u64 0)).setCell ⟨g+1+1,1,none⟩ (.string ⟨#[]⟩)) (g+1+1) 58 #[.int .u64 0,.string ⟨#[]⟩]:=((c0.O.far (p:=⟨rp d,7,none⟩) c1.O _).s_ 0 _).s_ 1 _;have b0:=af s (rp d) 7 (.int .i64 (p.opn-1));have b1:aa (λb=>b=g+1+1) (s.setCell ⟨rp d,7,none⟩ (.int .i64 (p.opn-1))) (((s.setCell ⟨rp d,7,none⟩ (.int .i64 (p.opn-1))).setCell ⟨g+1+1,0,none⟩ (.int .u64 0)).setCell ⟨g+1+1,1,none⟩ (.string ⟨#[]⟩)):=(af _ _ _ _).trans (af _ _ _ _);refine bodyPost_ret (jB Tryz.results54 rfl cg Tryz.underlying58 rfl (by kernel_rfl)) rfl ?_;refine⟨rfl,λf H t P D E y aE cm cn cp cq=>?_,?_⟩
  ·have T:=((ai.O f t P D E (by first|exact y|exact y.trans a5.symm)).kp S.O nG).turn_eq (n:=d) (r:=p) (r':=H) (by rw[ag _ _ V.O];exact X.O) b0 aE (λA c e=>by
    have:=e.s_ 7 (.int .i64 (p.opn-1));have a0:(bV d p A c).setIfInBounds 7 (.int .i64 (p.opn-1))=bV d H A c:=by simp[bV,aE,cm,cn,cp,cq]
    rw[a0] at this;exact this)
   exact T.kp b1 (λb e a=>by have:=d1.O b e;omega)
  ·exact(((((d3.O.mono λ_ a=>a.elim).trans (z.O.mono λ_ a=>a.elim)).trans (al.O.mono λb a=>by rw[a];exact R.O.1)).trans (S.O.mono λ_ a=>a.elim)).trans (b0.mono λb a=>by rw[a];exact c5.O.1)).trans' b1 (λb a=>.inr (by omega))
 ·have dl:((p.sa:Int)==3)=false:=bF (by omega)
  have dp:((p.sa:Int) !=3)=true:=by simp[bne,dl]
  have d4:p.opn<=1:=by omega
  have dk:decide (1<p.opn)=false:=yd (by omega);clear d7 d8
  have az:d≠n:=λa=>by
   have:=yl (λk:Nm=>k.M.length) a;simp[a6,a7] at this
  have V:=hD az;have X:=hD bx;have c3:=hD a7;have dm:IntKind.i64.wrap (p.opn-1)=p.opn-1:=by unfold IntKind.wrap;simp[IntKind.bits,IntKind.signed];omega
  have dn:wrap64 (p.opn-1)=p.opn-1:=by unfold wrap64;omega
  have ad:=hD a6;clear ce cf cd T bt bv ck a1 bz bq br c6 Z a6 a7 bx d5 az;unfold eO;unfold aV eT at a9 ⊢;go_enter Tryz.func54,Tryz.ntmps54;go_wp2_with fail;rw[bo.O,<-bk.O];refine a9.O.mono ?_;rintro a G ⟨rfl,Q⟩;have z:=hD Q;obtain⟨t,P,D,A,c,E,y⟩:=bn.O.row n r bm.O;have e:=Q.J E nF;have an:=y.kp Q nG;have R:=hD (aI t (aI D (aI e an)));have b7:=e.I 6;have b8:=e.I 8;have b9:=e.I 9;have b6:=e.I 10;simp[bV,a5] at b7 b8 b9 b6;have c8:=e.fz 6;have c9:=e.fz 8;have cb:=e.fz 9;obtain⟨ba,bb⟩:=((Q.J a4.O nF)).gE2;clear Q t P D E y e an bo;go_wp2_with fail
  have ar:Hd (∀W,aa (λb=>b=rp n) G W->aa (λb=>b=rp n) G W/\W.cell? ⟨g+1,0,none⟩=some (.int .i64 x.v)/\W.cell? ⟨g+1,1,none⟩=some (.int .i64 x.e)):=hD λW m=>by
   have b2:=m.J (z.O.J a4.O nF) (λa=>ae.ne_ (z.O.J a4.O nF) R.O.2.2.1 (by decide) a);exact⟨m,b2.I 0,b2.I 1⟩
  have Y:=ar.O G oR
  go_region_held3 (λw'=>aa (λb=>b=rp n) G w'/\w'.cell? ⟨g+1,0,none⟩=some (.int .i64 x.v)/\w'.cell? ⟨g+1,1,none⟩=some (.int .i64 x.e))
   (first|(refine ar.O _ ?_;repeat (first|with_reducible exact oR|with_reducible refine aa.drew ?_|with_reducible refine aJ ?_))|fail) (fail)
  obtain⟨j,N⟩:=eX ((((G.setCell ⟨rp n,6,none⟩ (.int .u8 6)).setCell ⟨rp n,8,none⟩ (.int .i64 x.v)).setCell ⟨rp n,9,none⟩ (.int .i64 x.e)).drew);rw[<-N];have a2:aa (λb=>b=rp n) G j:=by rw[N];exact(aJ (aJ (af _ _ _ _))).drew
  have ai:Hd (∀f,f.tk=r.tk->f.sa=6->f.opn=r.opn->f.res=x->f.fk=r.fk->bQ j F tb mb most (ay rows n (some f)) cnt rp):=hD λf t P D E y=>by
   refine(bn.O.kp z.O nG).turn_eq bm.O a2 t λA c e=>?_
   have:=((e.s_ 6 (.int .u8 6)).s_ 8 (.int .i64 x.v)).s_ 9 (.int .i64 x.e)
   have a0:(((bV n r A c).setIfInBounds 6 (.int .u8 6)).setIfInBounds 8 (.int .i64 x.v)).setIfInBounds 9 (.int .i64 x.e)=bV n f A c:=by
    simp[bV,t,P,D,E,y]
   rw[a0] at this;rw[N];exact this
  have al:=hD a2
  have cr:j.cell? ⟨rp n,10,none⟩=some (.bool r.fk):=by
   have:=(((R.O.2.2.1.s_ 6 (.int .u8 6)).s_ 8 (.int .i64 x.v)).s_ 9 (.int .i64 x.e)).drew.I 10;rw[N,this];simp[bV]
  rw[a5] at cr;clear b7 b8 b9 b6 c8 c9 cb N Y;clear ba bb;have B:=ai.O {r with sa:=6,res:=x} rfl rfl rfl rfl rfl;have c4:=hD B;have c7:j.cell? ⟨tb,1,none⟩=some (.map (some mb)):=B.J.I 1
  have c2:Hd (∀W,ac j W->Calls Tryz.prog 105 #[.pointer (some ⟨rp n,0,none⟩)] W λa w'=>a=.returned (.agg #[.int .u64 n.job,.string (sB l)])/\ac W w'):=hD λW m=>by
   obtain⟨a3,b3,b4,a8,am,i,b5⟩:=(B.kp m nG).row n _ (aA _ _ _);exact mD (rp n) n _ a8 am l u c3.O d2.O.2 W i
  have ab:Hd (∀W,ac j W->(Instr.lookup 196 (.map (some mb)) (.agg #[.int .u64 n.job,.string (sB l)]) false).run Tryz.prog W=.ok (.pointer (some ⟨rp d,0,none⟩)) W):=hD λW m=>by
   have aw:=B.kp m nG;have L:ay rows n (some {r with sa:=6,res:=x}) d=some p:=by rw[ag _ _ V.O];exact X.O
   have:=aw.look (n:=d) (aw.row d p L).2.1 W rfl;rw[L,ad.O] at this;rw[ad.O];exact this
  have K:Hd (∀W,ac j W->ac j W/\W.cell? ⟨tb,1,none⟩=some (.map (some mb))):=hD λW m=>⟨m,(B.kp m nG).J.I 1⟩
  have Y:=K.O j oR;clear B a2 c7;go_wp2_with fail;go_upto_region 7 with fail
  go_region_held3 (λw'=>ac j w'/\w'.cell? ⟨tb,1,none⟩=some (.map (some mb)))
   (first|exact K.O _ (yt ‹_›)|exact K.O _ (aa.drew (yt ‹_›))|exact K.O _ (aa.trans (aa.drew (yt ‹_›)) q)|exact K.O _ (aa.trans (yt ‹_›) q)|fail)
   (first
    |(go_at_call 105;refine(c2.O _ (by first|exact aa.drew (yt ‹_›)|exact yt ‹_›)).mono ?_;rintro a s ⟨rfl,q⟩;have ch:=ab.O s (by first|exact aa.trans (aa.drew (yt ‹_›)) q|exact aa.trans (yt ‹_›) q);have ci:=ab.O s.drew (by first|exact(aa.trans (aa.drew (yt ‹_›)) q).drew|exact(aa.trans (yt ‹_›) q).drew))
    |fail)
  have S:Hd (ac j s):=hD ((oR.drew).trans q);have av:=c4.O.kp S.O nG;have L:ay rows n (some {r with sa:=6,res:=x}) d=some p:=by rw[ag _ _ V.O];exact X.O
  obtain⟨a3,b3,b4,a8,am,i,b5⟩:=av.row d p L;have C:=(S.O.J (al.O.J (z.O.J bf.O nF) (λa=>ae.ne_ (z.O.J bf.O nF) R.O.2.2.1 (by decide) a)) nF)
  have c5:=hD (aI a3 i);have c0:=hD C;have c1:Hd (g+1+1≠rp d):=hD λa=>ae.ne_ C i (by decide) a
  have cv:=i.I 0;have cw:=i.I 1;have cB:=i.I 6;have d0:=i.I 7;simp[bV] at cv cw cB d0;have db:=i.fz 6;have dd:=i.fz 7;obtain⟨ba,bb⟩:=C.gE2;have d9:=C.fz 0;have da:=C.fz 1;clear ch ci Y q av L a3 b3 b4 i b5 C;go_wp2_with fail;have a1:=bk.O;have cg:ae (((s.setCell ⟨rp d,7,none⟩ (.int .i64 (p.opn-1))).setCell ⟨g+1+1,0,none⟩ (.int .u64 0)).setCell ⟨g+1+1,1,none⟩ (.string ⟨#[]⟩)) (g+1+1) 58 #[.int .u64 0,.string ⟨#[]⟩]:=((c0.O.far (p:=⟨rp d,7,none⟩) c1.O _).s_ 0 _).s_ 1 _;have b0:=af s (rp d) 7 (.int .i64 (p.opn-1));have b1:aa (λb=>b=g+1+1) (s.setCell ⟨rp d,7,none⟩ (.int .i64 (p.opn-1))) (((s.setCell ⟨rp d,7,none⟩ (.int .i64 (p.opn-1))).setCell ⟨g+1+1,0,none⟩ (.int .u64 0)).setCell ⟨g+1+1,1,none⟩ (.string ⟨#[]⟩)):=(af _ _ _ _).trans (af _ _ _ _);refine bodyPost_ret (jB Tryz.results54 rfl cg Tryz.underlying58 rfl (by kernel_rfl)) rfl ?_;refine⟨rfl,λf H t P D E y aE cm cn cp cq=>?_,?_⟩
  ·have T:=((ai.O f t P D E (by first|exact y|exact y.trans a5.symm)).kp S.O nG).turn_eq (n:=d) (r:=p) (r':=H) (by rw[ag _ _ V.O];exact X.O) b0 aE (λA c e=>by
    have:=e.s_ 7 (.int .i64 (p.opn-1));have a0:(bV d p A c).setIfInBounds 7 (.int .i64 (p.opn-1))=bV d H A c:=by simp[bV,aE,cm,cn,cp,cq]
    rw[a0] at this;exact this)
   exact T.kp b1 (λb e a=>by have:=d1.O b e;omega)
  ·exact(((((d3.O.mono λ_ a=>a.elim).trans (z.O.mono λ_ a=>a.elim)).trans (al.O.mono λb a=>by rw[a];exact R.O.1)).trans (S.O.mono λ_ a=>a.elim)).trans (b0.mono λb a=>by rw[a];exact c5.O.1)).trans' b1 (λb a=>.inr (by omega))
theorem AX(x:aD)(a:Nm)(l:List UInt8)(u:UInt8)(p:aG)(a8:a=⟨n.job,l⟩)(ab:n.M=l++ [u])(b8:∀b,F b->b<w.heap.size)(b7:bQ w F tb mb most rows cnt rp)(a9:dh n)(ad:rows n=some r)(bo:r.sa=2\/r.sa=5)(a7:r.fk=true)
 (bn:rows a=some p) (cr:1<=p.opn/\p.opn<=100) (cv:p.opn=1/\p.sa=3):
 Calls Tryz.prog 54 #[.pointer (some ⟨tb,0,none⟩),aV n,eO x] w λd w'=>d=.returned (.tuple #[aV a,.bool true,.int .i64 0])/\
  (∀f q,f.tk=r.tk->f.sa=6->f.opn=r.opn->f.res=x->f.fk=r.fk->q.tk=p.tk->q.sa=4->q.opn=p.opn-1->q.res=p.res->q.fk=p.fk->bQ w' F tb mb most (ay (ay rows n (some f)) a (some q)) cnt rp)/\aa F w w':=by
 obtain⟨Y,D⟩:=eX ((((w.alloc (.cells #[.int .u64 n.job,.string (sB n.M)] 58)).alloc (.cells #[.int .i64 x.v,.int .i64 x.e] 35)).alloc (.cells #[.int .u64 0,.string ⟨#[]⟩] 58)).alloc (.cells #[.int .u8 2,.int .u8 5] 5));have ai:ac w Y:=by rw[D];exact((((aa.refl _ w).alloc _).alloc _).alloc _).alloc _
 have a3:ae Y (w.heap.size+1) 35 #[.int .i64 x.v,.int .i64 x.e]:=by
  rw[D,<-jt w (.cells #[.int .u64 n.job,.string (sB n.M)] 58)];exact(bN.alloc _).alloc _
 have a4:ae Y (w.heap.size+1+1) 58 #[.int .u64 0,.string ⟨#[]⟩]:=by
  rw[D,<-pq w (.cells #[.int .u64 n.job,.string (sB n.M)] 58) (.cells #[.int .i64 x.v,.int .i64 x.e] 35)];exact bN.alloc _
 have b5:ae Y (w.heap.size+1+1+1) 5 (([2,5]:List Int).map (Value.int .u8)).toArray:=by
  rw[D,<-w8 w (.cells #[.int .u64 n.job,.string (sB n.M)] 58) (.cells #[.int .i64 x.v,.int .i64 x.e] 35) (.cells #[.int .u64 0,.string ⟨#[]⟩] 58)];exact bN
 have N:=b7.kp ai nG;have a0:=hD (lZ (w.heap.size+1+1+1) 2 [2,5] N a9 ad (by rcases bo with d|d<;>simp[d]) (by decide) b5);obtain⟨g,P⟩:=eX w.heap.size;rw[<-P] at a3 a4 a0;have b9:∀b,F b->b<g:=λb e=>by rw[P];exact b8 b e
 have c7:=hD b9;have b1:=hD N;have b0:=hD ad;have c9:=hD ai;have Z:=hD a3;have ar:=hD a4;have av:=hD P;have c8:=hD a9;have b3:=hD D.symm;have cn:((p.sa:Int)==3)=true:=beq_iff_eq.2 (by omega);have dl:((p.sa:Int) !=3)=false:=by simp[bne,cn]
 have dk:p.opn<=1:=by omega
 have dd:decide (1<p.opn)=false:=yd (by omega);clear cv
 have bm:a≠n:=λd=>by
  have:=yl (λk:Nm=>k.M.length) d;simp[a8,ab] at this
 have a1:=hD bm;have a2:=hD bn;have cd:=hD ab;have dm:IntKind.i64.wrap (p.opn-1)=p.opn-1:=by unfold IntKind.wrap;simp[IntKind.bits,IntKind.signed];omega
 have dn:wrap64 (p.opn-1)=p.opn-1:=by unfold wrap64;omega
 have az:=hD a8;clear b8 b9 b7 N a9 ad bo P ai a3 a4 b5 D a8 ab bn cr bm;unfold eO;unfold aV eT at a0 ⊢;go_enter Tryz.func54,Tryz.ntmps54;go_wp2_with fail;rw[b3.O,<-av.O];refine a0.O.mono ?_;rintro d K ⟨rfl,T⟩;have B:=hD T;obtain⟨y,S,G,A,c,H,z⟩:=b1.O.row n r b0.O;have e:=T.J H nF;have ba:=z.kp T nG;have V:=hD (aI y (aI G (aI e ba)));have c1:=e.I 6;have c2:=e.I 8;have c3:=e.I 9;have c0:=e.I 10;simp[bV,a7] at c1 c2 c3 c0;have ch:=e.fz 6;have ci:=e.fz 8;have ck:=e.fz 9;obtain⟨c4,c5⟩:=((T.J Z.O nF)).gE2;clear T y S G H z e ba b3;go_wp2_with fail
 have bb:Hd (∀W,aa (λb=>b=rp n) K W->aa (λb=>b=rp n) K W/\W.cell? ⟨g+1,0,none⟩=some (.int .i64 x.v)/\W.cell? ⟨g+1,1,none⟩=some (.int .i64 x.e)):=hD λW m=>by
  have bt:=m.J (B.O.J Z.O nF) (λd=>ae.ne_ (B.O.J Z.O nF) V.O.2.2.1 (by decide) d);exact⟨m,bt.I 0,bt.I 1⟩
 have a5:=bb.O K oR
 go_region_held3 (λw'=>aa (λb=>b=rp n) K w'/\w'.cell? ⟨g+1,0,none⟩=some (.int .i64 x.v)/\w'.cell? ⟨g+1,1,none⟩=some (.int .i64 x.e))
  (first|(refine bb.O _ ?_;repeat (first|with_reducible exact oR|with_reducible refine aa.drew ?_|with_reducible refine aJ ?_))|fail) (fail)
 obtain⟨j,R⟩:=eX ((((K.setCell ⟨rp n,6,none⟩ (.int .u8 6)).setCell ⟨rp n,8,none⟩ (.int .i64 x.v)).setCell ⟨rp n,9,none⟩ (.int .i64 x.e)).drew);rw[<-R];have al:aa (λb=>b=rp n) K j:=by rw[R];exact(aJ (aJ (af _ _ _ _))).drew
 have b2:Hd (∀f,f.tk=r.tk->f.sa=6->f.opn=r.opn->f.res=x->f.fk=r.fk->bQ j F tb mb most (ay rows n (some f)) cnt rp):=hD λf y S G H z=>by
  refine(b1.O.kp B.O nG).turn_eq b0.O al y λA c e=>?_
  have:=((e.s_ 6 (.int .u8 6)).s_ 8 (.int .i64 x.v)).s_ 9 (.int .i64 x.e)
  have a6:(((bV n r A c).setIfInBounds 6 (.int .u8 6)).setIfInBounds 8 (.int .i64 x.v)).setIfInBounds 9 (.int .i64 x.e)=bV n f A c:=by
   simp[bV,y,S,G,H,z]
  rw[a6] at this;rw[R];exact this
 have b4:=hD al
 have d2:j.cell? ⟨rp n,10,none⟩=some (.bool r.fk):=by
  have:=(((V.O.2.2.1.s_ 6 (.int .u8 6)).s_ 8 (.int .i64 x.v)).s_ 9 (.int .i64 x.e)).drew.I 10;rw[R,this];simp[bV]
 rw[a7] at d2;clear c1 c2 c3 c0 ch ci ck R a5;clear c4 c5;have C:=b2.O {r with sa:=6,res:=x} rfl rfl rfl rfl rfl;have ce:=hD C;have cg:j.cell? ⟨tb,1,none⟩=some (.map (some mb)):=C.J.I 1
 have cb:Hd (∀W,ac j W->Calls Tryz.prog 105 #[.pointer (some ⟨rp n,0,none⟩)] W λd w'=>d=.returned (.agg #[.int .u64 n.job,.string (sB l)])/\ac W w'):=hD λW m=>by
  obtain⟨am,bv,bx,an,b6,i,bz⟩:=(C.kp m nG).row n _ (aA _ _ _);exact mD (rp n) n _ an b6 l u cd.O c8.O.2 W i
 have aw:Hd (∀W,ac j W->(Instr.lookup 196 (.map (some mb)) (.agg #[.int .u64 n.job,.string (sB l)]) false).run Tryz.prog W=.ok (.pointer (some ⟨rp a,0,none⟩)) W):=hD λW m=>by
  have bk:=C.kp m nG;have Q:ay rows n (some {r with sa:=6,res:=x}) a=some p:=by rw[ag _ _ a1.O];exact a2.O
  have:=bk.look (n:=a) (bk.row a p Q).2.1 W rfl;rw[Q,az.O] at this;rw[az.O];exact this
 have L:Hd (∀W,ac j W->ac j W/\W.cell? ⟨tb,1,none⟩=some (.map (some mb))):=hD λW m=>⟨m,(C.kp m nG).J.I 1⟩
 have a5:=L.O j oR;clear C al cg;go_wp2_with fail;go_upto_region 7 with fail
 go_region_held3 (λw'=>ac j w'/\w'.cell? ⟨tb,1,none⟩=some (.map (some mb)))
  (first|exact L.O _ (yt ‹_›)|exact L.O _ (aa.drew (yt ‹_›))|exact L.O _ (aa.trans (aa.drew (yt ‹_›)) t)|exact L.O _ (aa.trans (yt ‹_›) t)|fail)
  (first
   |(go_at_call 105;refine(cb.O _ (by first|exact aa.drew (yt ‹_›)|exact yt ‹_›)).mono ?_;rintro d s ⟨rfl,t⟩;have cp:=aw.O s (by first|exact aa.trans (aa.drew (yt ‹_›)) t|exact aa.trans (yt ‹_›) t);have cq:=aw.O s.drew (by first|exact(aa.trans (aa.drew (yt ‹_›)) t).drew|exact(aa.trans (yt ‹_›) t).drew))
   |fail)
 have X:Hd (ac j s):=hD ((oR.drew).trans t);have bf:=ce.O.kp X.O nG;have Q:ay rows n (some {r with sa:=6,res:=x}) a=some p:=by rw[ag _ _ a1.O];exact a2.O
 obtain⟨am,bv,bx,an,b6,i,bz⟩:=bf.row a p Q;have E:=(X.O.J (b4.O.J (B.O.J ar.O nF) (λd=>ae.ne_ (B.O.J ar.O nF) V.O.2.2.1 (by decide) d)) nF)
 have cf:=hD (aI am i);have c6:=hD E;have aE:Hd (g+1+1≠rp a):=hD λd=>ae.ne_ E i (by decide) d
 have d3:=i.I 0;have d4:=i.I 1;have d5:=i.I 6;have d7:=i.I 7;simp[bV] at d3 d4 d5 d7;have da:=i.fz 6;have db:=i.fz 7;obtain⟨c4,c5⟩:=E.gE2;have d8:=E.fz 0;have d9:=E.fz 1;clear cp cq a5 t bf Q am bv bx i bz E;go_wp2_with fail;have P:=av.O;have cm:ae ((((s.setCell ⟨rp a,7,none⟩ (.int .i64 (p.opn-1))).setCell ⟨rp a,6,none⟩ (.int .u8 4)).setCell ⟨g+1+1,0,none⟩ (.int .u64 a.job)).setCell ⟨g+1+1,1,none⟩ (.string (sB a.M))) (g+1+1) 58 #[.int .u64 a.job,.string (sB a.M)]:=(((c6.O.far (p:=⟨rp a,7,none⟩) aE.O _).far (p:=⟨rp a,6,none⟩) aE.O _).s_ 0 _).s_ 1 _;have bq:aa (λb=>b=rp a) s ((s.setCell ⟨rp a,7,none⟩ (.int .i64 (p.opn-1))).setCell ⟨rp a,6,none⟩ (.int .u8 4)):=(af _ _ _ _).trans (af _ _ _ _);have br:aa (λb=>b=g+1+1) ((s.setCell ⟨rp a,7,none⟩ (.int .i64 (p.opn-1))).setCell ⟨rp a,6,none⟩ (.int .u8 4)) ((((s.setCell ⟨rp a,7,none⟩ (.int .i64 (p.opn-1))).setCell ⟨rp a,6,none⟩ (.int .u8 4)).setCell ⟨g+1+1,0,none⟩ (.int .u64 a.job)).setCell ⟨g+1+1,1,none⟩ (.string (sB a.M))):=(af _ _ _ _).trans (af _ _ _ _);refine bodyPost_ret (jB Tryz.results54 rfl cm Tryz.underlying58 rfl (by kernel_rfl)) rfl ?_;refine⟨rfl,λf q y S G H z bp cw cB d0 d1=>?_,?_⟩
 ·have N:=((b2.O f y S G H (by first|exact z|exact z.trans a7.symm)).kp X.O nG).turn_eq (n:=a) (r:=p) (r':=q) (by rw[ag _ _ a1.O];exact a2.O) bq bp (λA c e=>by
   have:=(e.s_ 7 (.int .i64 (p.opn-1))).s_ 6 (.int .u8 4);have a6:((bV a p A c).setIfInBounds 7 (.int .i64 (p.opn-1))).setIfInBounds 6 (.int .u8 4)=bV a q A c:=by simp[bV,bp,cw,cB,d0,d1]
   rw[a6] at this;exact this)
  exact N.kp br (λb e d=>by have:=c7.O b e;omega)
 ·exact(((((c9.O.mono λ_ d=>d.elim).trans (B.O.mono λ_ d=>d.elim)).trans (b4.O.mono λb d=>by rw[d];exact V.O.1)).trans (X.O.mono λ_ d=>d.elim)).trans (bq.mono λb d=>by rw[d];exact cf.O.1)).trans' br (λb d=>.inr (by omega))
end
def eJ(o:bI):List Value:=[.int .u8 o.k,.int .i64 o.d,.int .i64 o.a,.int .i64 o.b,.int .i64 o.n]
def cR(o:bI):Value:=.agg #[.int .u8 o.k,.int .i64 o.d,.int .i64 o.a,.int .i64 o.b,.int .i64 o.n]
def mh(b:Bool):Int:=if b then 1 else 0
theorem ss(b:Bool)(w:World):Calls Tryz.prog 209 #[.bool b] w λa w'=>a=.returned (.int .i64 (mh b))/\ac w w':=by
 cases b
 ·go_enter Tryz.func209,Tryz.ntmps209
  go_wp2_with fail;go_ret;exact⟨rfl,oR⟩
 ·go_enter Tryz.func209,Tryz.ntmps209
  go_wp2_with fail;go_ret;exact⟨rfl,oR⟩
def fI:Option Int->Value
 |none=>.tuple #[.int .i64 0,.bool false]
 |some x=>.tuple #[.int .i64 x,.bool true]
theorem eU{w:World}{rb i:Nat}{regs:List Int}(a:ae w rb 2 (regs.map (Value.int .i64)).toArray)(b:i<regs.length):w.cell? ⟨rb,i,none⟩=some (.int .i64 (regs.getD i 0)):=by
 rw[a.I];simp[yc,b]
section
variable (fb rb cap:Nat)(cs:Array Value)(regs:List Int)(o:bI)(a' b':Nat)(w:World)
theorem xI(y:ae w fb 232 cs)(p:cs[5]?=some (.slice (some ⟨rb,0,none⟩) regs.length cap))(x:ae w rb 2 (regs.map (Value.int .i64)).toArray)(v:a'<regs.length)(k:Int)(R:k=2):
 Calls Tryz.prog 177 #[.pointer (some ⟨fb,0,none⟩),.agg #[.int .u8 k,.int .i64 o.d,.int .i64 (a':Int),.int .i64 o.b,.int .i64 o.n]] w λQ w'=>Q=.returned (.tuple #[.int .i64 (regs.getD a' 0),.bool true])/\ac w w':=by
 obtain⟨c,e⟩:=eX (w.alloc (.cells #[.int .u8 k,.int .i64 o.d,.int .i64 (a':Int),.int .i64 o.b,.int .i64 o.n] 106));have f:ac w c:=by rw[e];exact(aa.refl _ w).alloc _
 have a:ae c w.heap.size 106 #[.int .u8 k,.int .i64 o.d,.int .i64 (a':Int),.int .i64 o.b,.int .i64 o.n]:=by rw[e];exact bN
 have i:=f.J x nF;have j:=f.J y nF;obtain⟨g,q⟩:=eX w.heap.size;obtain⟨l,s⟩:=eX regs.length;rw[<-q] at a;have P:c.cell? ⟨fb,5,none⟩=some (.slice (some ⟨rb,0,none⟩) l cap):=by rw[j.I,p,s]
 have S:=eU i v;generalize Y:regs.getD a' 0=A at*;have Z:(0:Int)<=(a':Int):=by omega
 have a0:(a':Int)<(l:Int):=by omega
 obtain⟨z,B,C,D,E⟩:=a.gE5;have G:=hD a;have T:=hD i;have V:=hD j;have K:=hD f;have H:=hD q;have X:=hD s;have W:=hD p;have u:=hD e.symm;clear a i j f q s p x y v e;subst R;go_enter Tryz.func177,Tryz.ntmps177;go_upto_region 2 with fail;rw[u.O,<-H.O];clear u
 go_quiet (fail)
 obtain⟨N,m⟩:=eX (c.drewN nq);rw[<-m];have t:ac c N:=by rw[m];exact oR.drewN nq
 have L:=hD (K.O.trans t);clear P z B C D E S m;have a:=t.J G.O nF;obtain⟨z,B,C,D,E⟩:=a.gE5;clear t a;go_wp2_with fail
 go_ret2
 exact⟨rfl,L.O⟩
theorem iF(a0:ae w fb 232 cs)(L:cs[5]?=some (.slice (some ⟨rb,0,none⟩) regs.length cap))(Y:ae w rb 2 (regs.map (Value.int .i64)).toArray)(X:a'<regs.length)(Z:b'<regs.length)(a1:o.b=(b':Int))(k:Int)(r:Value)
 (al:(k=3/\r=.tuple #[.int .i64 (wrap64 (regs.getD a' 0+regs.getD b' 0)),.bool true])\/(k=4/\r=.tuple #[.int .i64 (wrap64 (regs.getD a' 0-regs.getD b' 0)),.bool true])\/(k=5/\r=.tuple #[.int .i64 (wrap64 (regs.getD a' 0*regs.getD b' 0)),.bool true])\/(k=8/\r=.tuple #[.int .i64 (mh (decide (regs.getD a' 0<regs.getD b' 0))),.bool true])\/(k=9/\r=.tuple #[.int .i64 (mh (regs.getD a' 0==regs.getD b' 0)),.bool true])\/(k=6/\regs.getD b' 0=0/\r=.tuple #[.int .i64 0,.bool false])\/(k=7/\regs.getD b' 0=0/\r=.tuple #[.int .i64 0,.bool false])\/(k=6/\regs.getD b' 0≠0/\r=.tuple #[.int .i64 (wrap64 ((regs.getD a' 0).tdiv (regs.getD b' 0))),.bool true])\/(k=7/\regs.getD b' 0≠0/\r=.tuple #[.int .i64 ((regs.getD a' 0).tmod (regs.getD b' 0)),.bool true])):
 Calls Tryz.prog 177 #[.pointer (some ⟨fb,0,none⟩),.agg #[.int .u8 k,.int .i64 o.d,.int .i64 (a':Int),.int .i64 o.b,.int .i64 o.n]] w λG w'=>G=.returned r/\ac w w':=by
 rw[a1];have R:=hD Z;obtain⟨f,p⟩:=eX (w.alloc (.cells #[.int .u8 k,.int .i64 o.d,.int .i64 (a':Int),.int .i64 (b':Int),.int .i64 o.n] 106));have q:ac w f:=by rw[p];exact(aa.refl _ w).alloc _
 have a:ae f w.heap.size 106 #[.int .u8 k,.int .i64 o.d,.int .i64 (a':Int),.int .i64 (b':Int),.int .i64 o.n]:=by rw[p];exact bN
 have C:=q.J Y nF;have D:=q.J a0 nF;obtain⟨g,N⟩:=eX w.heap.size;obtain⟨l,P⟩:=eX regs.length;rw[<-N] at a;have E:f.cell? ⟨fb,5,none⟩=some (.slice (some ⟨rb,0,none⟩) l cap):=by rw[D.I,L,P]
 have ar:=eU C X;generalize av:regs.getD a' 0=A at*;generalize ai:regs.getD b' 0=B at*;have aw:(0:Int)<=(a':Int):=by omega
 have az:(a':Int)<(l:Int):=by omega
 obtain⟨s,t,u,v,x⟩:=a.gE5;have a3:=hD a;have a4:=hD C;have a6:=hD D;have a9:=hD q;have a8:=hD N;have S:=hD P;have a7:=hD L;have T:=hD p.symm;clear a C D q N P L Y a0 X p Z a1
 rcases al with⟨rfl,rfl⟩|⟨rfl,rfl⟩|⟨rfl,rfl⟩|⟨rfl,rfl⟩|⟨rfl,rfl⟩|⟨rfl,c,rfl⟩|⟨rfl,c,rfl⟩|⟨rfl,c,rfl⟩|⟨rfl,c,rfl⟩
 all_goals
  go_enter Tryz.func177,Tryz.ntmps177;go_upto_region 2 with fail;rw[T.O,<-a8.O];clear T
  go_quiet (fail)
  obtain⟨m,H⟩:=eX (f.drewN nq);rw[<-H];have i:ac f m:=by rw[H];exact oR.drewN nq
  have ab:=hD (a9.O.trans i);clear E s t u v x ar H;have a:=i.J a3.O nF;obtain⟨s,t,u,v,x⟩:=a.gE5;have W:=i.J a6.O nF;have V:=i.J a4.O nF;have a5:=hD a;have E:m.cell? ⟨fb,5,none⟩=some (.slice (some ⟨rb,0,none⟩) l cap):=by rw[W.I,a7.O,S.O]
  have a2:=eU V R.O;rw[ai] at a2;have aE:(0:Int)<=(b':Int):=by omega
  have b0:(b':Int)<(l:Int):=by have:=R.O;have:=S.O;omega
  clear i a W V;go_wp2_with fail
  go_quiet (fail)
  obtain⟨z,K⟩:=eX (m.drewN nq);rw[<-K];have Q:ac m z:=by rw[K];exact oR.drewN nq
  have e:=hD (ab.O.trans Q);clear s t u v x E a2 K;have a:=Q.J a5.O nF;obtain⟨s,t,u,v,x⟩:=a.gE5;clear Q a
 iterate 3 ·go_wp2_with fail;go_ret2;exact⟨rfl,e.O⟩
 ·go_wp2_with fail
  refine(ss (decide (A<B)) z).mono ?_;rintro G ad ⟨rfl,j⟩;have y:=hD (e.O.trans j);clear j;go_wp2_with fail
  go_ret2
  exact⟨rfl,y.O⟩
 ·go_wp2_with fail
  refine(ss (A==B) z).mono ?_;rintro G ad ⟨rfl,j⟩;have y:=hD (e.O.trans j);clear j;go_wp2_with fail
  go_ret2
  exact⟨rfl,y.O⟩
 iterate 2 ·subst c;go_wp2_with fail;go_ret2;exact⟨rfl,e.O⟩
 ·have am:(B==0)=false:=bF c
  have an:¬B=0:=c;go_wp2_with fail;go_ret2;exact⟨rfl,e.O⟩
 ·have am:(B==0)=false:=bF c
  have an:¬B=0:=c;go_wp2_with fail;go_ret2;exact⟨rfl,e.O⟩
end
def jp(x:Int):Prop:=-9223372036854775808<=x/\x<=9223372036854775807
theorem aR(x:Int):IntKind.i64.wrap x=wrap64 x:=by
 unfold IntKind.wrap wrap64;simp[IntKind.bits,IntKind.signed]
 try omega
theorem vv{x:Int}(a:jp x):wrap64 x=x:=by
 unfold jp at a;unfold wrap64;omega
theorem vr{x y:Int}(d:jp x):jp (x.tmod y):=by
 unfold jp at*
 have e:(x.tmod y).natAbs<=x.natAbs:=by
  rw[Int.natAbs_tmod];exact Nat.mod_le _ _
 by_cases b:0<=x
 ·have:=Int.tmod_nonneg y b
  omega
 ·have c:=Int.tmod_nonneg y (a:=-x) (by omega)
  rw[Int.neg_tmod] at c;omega
theorem BP(fb rb cap:Nat)(cs:Array Value)(regs:List Int)(o:bI)(w:World)(g:ae w fb 232 cs)(f:cs[5]?=some (.slice (some ⟨rb,0,none⟩) regs.length cap))(e:ae w rb 2 (regs.map (Value.int .i64)).toArray)(B:∀x∈regs,jp x)
 (G:2<=o.k/\o.k<=9) (E:0<=o.a/\o.a<regs.length) (A:o.k≠2->0<=o.b/\o.b<regs.length):
 Calls Tryz.prog 177 #[.pointer (some ⟨fb,0,none⟩),cR o] w λm w'=>m=.returned (fI (dt o.k (ct regs o.a) (ct regs o.b)))/\ac w w':=by
 obtain⟨k,d,a,b,n⟩:=o;simp only at*;obtain⟨a',rfl⟩ :∃a':Nat,a=a':=⟨a.toNat,by omega⟩
 have c:a'<regs.length:=by omega
 have z:jp (regs.getD a' 0):=by
  rw[yc,gG c];exact B _ (yN c)
 unfold cR ct dt;simp only[yo]
 by_cases p:k=2
 ·rw[yf p]
  exact xI fb rb cap cs regs ⟨k,d,a',b,n⟩ a' w g f e c k p
 ·obtain⟨C,D⟩:=A p
  obtain⟨b',rfl⟩ :∃b':Nat,b=b':=⟨b.toNat,by omega⟩
  have i:b'<regs.length:=by omega
  simp only[yo,aR];rw[yb p]
  by_cases t:k=3
  ·rw[yf t]
   exact iF fb rb cap cs regs ⟨k,d,a',b',n⟩ a' b' w g f e c i rfl k _ (.inl ⟨t,rfl⟩)
  rw[yb t]
  by_cases u:k=4
  ·rw[yf u]
   exact iF fb rb cap cs regs ⟨k,d,a',b',n⟩ a' b' w g f e c i rfl k _ (.inr (.inl ⟨u,rfl⟩))
  rw[yb u]
  by_cases v:k=5
  ·rw[yf v]
   exact iF fb rb cap cs regs ⟨k,d,a',b',n⟩ a' b' w g f e c i rfl k _ (.inr (.inr (.inl ⟨v,rfl⟩)))
  rw[yb v]
  by_cases q:k=6
  ·rw[yf q]
   by_cases j:regs.getD b' 0=0
   ·rw[yf j]
    exact iF fb rb cap cs regs ⟨k,d,a',b',n⟩ a' b' w g f e c i rfl k _ (.inr (.inr (.inr (.inr (.inr (.inl ⟨q,j,rfl⟩))))))
   ·rw[yb j]
    exact iF fb rb cap cs regs ⟨k,d,a',b',n⟩ a' b' w g f e c i rfl k _ (.inr (.inr (.inr (.inr (.inr (.inr (.inr (.inl ⟨q,j,rfl⟩))))))))
  rw[yb q]
  by_cases s:k=7
  ·rw[yf s]
   by_cases j:regs.getD b' 0=0
   ·rw[yf j]
    exact iF fb rb cap cs regs ⟨k,d,a',b',n⟩ a' b' w g f e c i rfl k _ (.inr (.inr (.inr (.inr (.inr (.inr (.inl ⟨s,j,rfl⟩)))))))
   ·rw[yb j,vv (vr z)]
    exact iF fb rb cap cs regs ⟨k,d,a',b',n⟩ a' b' w g f e c i rfl k _ (.inr (.inr (.inr (.inr (.inr (.inr (.inr (.inr ⟨s,j,rfl⟩))))))))
  rw[yb s]
  by_cases y:k=8
  ·rw[yf y]
   have:=iF fb rb cap cs regs ⟨k,d,a',b',n⟩ a' b' w g f e c i rfl k _ (.inr (.inr (.inr (.inl ⟨y,rfl⟩))))
   have m:mh (decide (regs.getD a' 0<regs.getD b' 0))=if regs.getD a' 0<regs.getD b' 0 then 1 else 0:=by
    unfold mh
    by_cases l:regs.getD a' 0<regs.getD b' 0<;>simp only[l,decide_true,decide_false,yR,Yi]<;>rfl
   rw[m] at this;exact this
  rw[yb y];have:=iF fb rb cap cs regs ⟨k,d,a',b',n⟩ a' b' w g f e c i rfl k _ (.inr (.inr (.inr (.inr (.inl ⟨by omega,rfl⟩)))))
  have m:mh (regs.getD a' 0==regs.getD b' 0)=if regs.getD a' 0=regs.getD b' 0 then 1 else 0:=by
   unfold mh
   by_cases l:regs.getD a' 0=regs.getD b' 0
   ·rw[yf l,beq_iff_eq.2 l];rfl
   ·rw[yb l,bF l];rfl
  rw[m] at this;exact this
end
end Go.Proofs.YtmdocplknceilaaGreat
