import Derived.Test.YtmdocplknceilaaGreatRWAR
import Derived.Deep.RegionHeld3
set_option linter.all false
set_option maxRecDepth 100000
set_option maxHeartbeats 4000000
namespace Go.Proofs.YtmdocplknceilaaGreat
section
open Go.RowKit Go.Maps
theorem aJ.by_map{w w':World}{F:Nat->Prop}{A:Option Addr}{xs:List Int}{P:Program}{k:TypeId}{mb:Nat}{f:Value->Option Value}{cnt:Nat}(c:aJ w F A xs)(j:aa (λb=>b=mb) w w')(t:aS P w k mb f cnt):aJ w' F A xs:=by
 rcases c with c|⟨b,o,g,q,d⟩
 ·exact .inl c
 ·by_cases e:0<xs.length
  ·obtain⟨s,u,l⟩:=q e
   have i:b≠mb:=t.ne l;exact .inr ⟨b,o,g,λ_=>⟨s,u,j.J l i⟩,λk a=>⟨(d k a).1,(j.I (p:=⟨b,o+k,none⟩) (block_lt_of_cell (d k a).2) i).trans (d k a).2⟩⟩
  ·exact .inr ⟨b,o,g,λm=>absurd m e,λk a=>absurd (by omega) e⟩
theorem qE{P:Program}{o:Oper}{a:Act}{b:Act->World->Prop}{Q:Exit->Act->World->Prop}{W:World}{k d t:TypeId}{mb:Nat}{f:Value->Option Value}{cnt:Nat}{key v:Value}{u:_}
 (e:aS P W k mb f cnt) (c:Keyed P k) (s:P.underlying t=some (.map k d)) (q:keyOf P k key=some u) (m:cnt<maxLen)
 (l:∀w',aS P w' k mb (iW f key (some v)) (if (f key).isSome then cnt else cnt+1)->aa (λx=>x=mb) W w'->b (a.put o.dst undef) w'):
 Oper.upon P o a b Q (((Instr.mapUpdate t (.map (some mb)) key v).run P W).andThen λa w'=>Result.ok Next.skip w'):=by
 obtain⟨w',g,i,j⟩:=e.put c s q m (v:=v);rw[g];exact l w' i j
section
variable {w w':World}{F F':Nat->Prop}{tb mb:Nat}{most:Int}{rows:Nm->Option aG}{cnt:Nat}{rp:Nm->Nat}{n:Nm}{r r':aG}
theorem yn(i:Int)(t:aj)(T:Bool)(A:Option Addr)(c:Nat)(aw:Nat->Prop)(bb:∀b,F b->b<w.heap.size)(b9:bS w F tb mb most rows cnt rp)(al:dE ⟨i,t.M⟩)(am:rows ⟨i,t.M⟩=none)(c9:(cnt:Int)<most)(E:most<=1000000)(bc:aJ w aw A t.args)(bo:t.args.length<=100000):
 Calls Tryz.prog 115 #[.pointer (some ⟨tb,0,none⟩),.int .u64 i,.agg (bX t A c),.bool T] w λe w'=>e=.returned (.int .i64 0)/\∃q,q<w'.heap.size/\w.heap.size<=q/\
  (∀r',r'.tk=t->r'.sa=1->r'.opn=0->r'.res=⟨0,0⟩->r'.fk=T->bS w' (λb=>F b\/w.heap.size<=b/\b<w'.heap.size) tb mb most (ax rows ⟨i,t.M⟩ (some r')) (cnt+1) (λd=>open Classical in if d=⟨i,t.M⟩ then q else rp d))/\aa F w w':=by
 obtain⟨s,Q⟩:=eX ((w.alloc (.cells #[.string (sB t.M),.int .i64 t.fn,.slice A t.args.length c,.int .i64 (t.fuel:Int)] 30)).alloc (.cells #[.int .u64 i,.string (sB t.M)] 58));have a7:ac w s:=by rw[Q];exact((aa.refl _ w).alloc _).alloc _
 have P:=b9.kp a7 nG;have a2:ae s w.heap.size 30 #[.string (sB t.M),.int .i64 t.fn,.slice A t.args.length c,.int .i64 (t.fuel:Int)]:=by rw[Q];exact bN.alloc _
 have a3:ae s (w.heap.size+1) 58 #[.int .u64 i,.string (sB t.M)]:=by
  rw[Q,<-jy w (.cells #[.string (sB t.M),.int .i64 t.fn,.slice A t.args.length c,.int .i64 (t.fuel:Int)] 30)];exact bN
 have ce:∀k,(Instr.lookup 196 (.map (some mb)) (.agg #[.int .u64 i,.string (sB t.M)]) false).run Tryz.prog (s.drewN k)=.ok (.pointer none) (s.drewN k):=λk=>by
  have:=P.look al (s.drewN k) rfl;rw[am] at this;exact this
 have a5:∀W,ac s W->(Builtin.len_ #[196] 3 #[.map (some mb)]).run Tryz.prog W=.ok (.int .i64 (cnt:Int)) W:=λW v=>(P.kp v nG).map.len Tryz.underlying196 _
 have c2:=hD a5;have d2:decide (most<=(cnt:Int))=false:=yd (by omega);have c0:=hD (bc.kp a7 nG);obtain⟨l,Y⟩:=eX t.args.length;obtain⟨g,X⟩:=eX w.heap.size;rw[<-X,<-Y] at a2;rw[<-X] at a3;rw[<-Y] at Q;have a9:s.cell? ⟨tb,0,none⟩=some (.int .i64 most):=P.J.I 0;have ab:s.cell? ⟨tb,1,none⟩=some (.map (some mb)):=P.J.I 1;obtain⟨cn,cp⟩:=a3.gE2;obtain⟨cv,cw,cB,d0⟩:=a2.gE4;have H:=hD P;have az:=hD a2;have aE:=hD a3;have b4:=hD a7;have b0:=hD X;have b5:=hD am;have b1:=hD Y;have b2:=hD bo;have b3:=hD al;have b6:=hD Q.symm;unfold bX;rw[<-Y];have bx:Hd (cnt<maxLen):=hD (by unfold maxLen;omega);have bz:=hD bb;clear b9 a5 bb P a2 a3 a7 am al X Q Y bo bc c9 E;go_enter Tryz.func115,Tryz.ntmps115;go_upto_region 2 with fail;rw[b6.O,<-b0.O];clear b6
 go_quiet (fail)
 clear ce a9 ab cn cp cv cw cB d0;obtain⟨K,ad⟩:=eX (s.drewN nq);rw[<-ad];have Z:ac s K:=by rw[ad];exact oR.drewN nq
 have a5:=λk=>c2.O (K.drewN k) (Z.drewN k)
 have a9:K.cell? ⟨tb,0,none⟩=some (.int .i64 most):=(H.O.kp Z nG).J.I 0;have ab:K.cell? ⟨tb,1,none⟩=some (.map (some mb)):=(H.O.kp Z nG).J.I 1;have b7:=hD Z;clear Z ad;go_wp2_with fail
 go_quiet (fail)
 obtain⟨u,ai⟩:=eX (K.drewN nq);rw[<-ai];clear a5 a9 ab;have br:ac K u:=by rw[ai];exact oR.drewN nq
 have m:=hD ((b7.O).trans br);clear br ai b7;go_upto_region 6 with fail
 have C:Hd (∀W,aa (λb=>b=mb) u W->aa (λb=>b=mb) u W/\W.cell? ⟨tb,1,none⟩=some (.map (some mb))/\W.cell? ⟨g+1,0,none⟩=some (.int .u64 i)/\W.cell? ⟨g+1,1,none⟩=some (.string (sB t.M))/\
  W.cell? ⟨g,0,none⟩=some (.string (sB t.M))/\W.cell? ⟨g,1,none⟩=some (.int .i64 t.fn)/\W.cell? ⟨g,2,none⟩=some (.slice A l c)/\W.cell? ⟨g,3,none⟩=some (.int .i64 (t.fuel:Int))):=hD λW v=>by
  have D:=H.O.kp m.O nG;have cr:=v.J D.J (D.map.ne D.J);have a8:=v.J (m.O.J az.O nF) (D.map.ne (m.O.J az.O nF));have bt:=v.J (m.O.J aE.O nF) (D.map.ne (m.O.J aE.O nF));exact⟨v,cr.I 1,bt.I 0,bt.I 1,a8.I 0,a8.I 1,a8.I 2,a8.I 3⟩
 have c4:Hd (∀W,aa (λb=>b=mb) u W->Calls Tryz.prog 104 #[.agg #[.string (sB t.M),.int .i64 t.fn,.slice A l c,.int .i64 (t.fuel:Int)]] W λe w'=>∃z c',e=.returned (.agg #[.string (sB t.M),.int .i64 t.fn,.slice z l c',.int .i64 (t.fuel:Int)])/\aJ w' (λb=>W.heap.size<=b/\b<w'.heap.size) z t.args/\ac W w'):=hD λW v=>by
  have E:=(H.O.kp m.O nG).map;have:=rX t A c aw W ((c0.O.kp m.O nG).by_map v E) b2.O;unfold bX at this;rw[<-b1.O] at this;exact this
 have c3:Hd (∀W,ac u W->aS Tryz.prog W 58 mb (eE λn=>(rows n).map λ_=>.pointer (some ⟨rp n,0,none⟩)) cnt):=hD λW v=>((H.O.kp m.O nG).kp v nG).map
 obtain⟨d4,bn⟩:=b3.O.key;have c1:=hD bn;clear bn;have d1:=C.O u oR
 go_region_held3 (λw'=>aa (λb=>b=mb) u w'/\w'.cell? ⟨tb,1,none⟩=some (.map (some mb))/\w'.cell? ⟨g+1,0,none⟩=some (.int .u64 i)/\w'.cell? ⟨g+1,1,none⟩=some (.string (sB t.M))/\
  w'.cell? ⟨g,0,none⟩=some (.string (sB t.M))/\w'.cell? ⟨g,1,none⟩=some (.int .i64 t.fn)/\w'.cell? ⟨g,2,none⟩=some (.slice A l c)/\w'.cell? ⟨g,3,none⟩=some (.int .i64 (t.fuel:Int)))
  (first|exact C.O _ (aa.trans (yt ‹_›) av)|exact C.O _ (aa.drew (yt ‹_›))|exact C.O _ (yt ‹_›)|exact C.O _ (aa.alloc (yt ‹_›) _)|exact C.O _ (aa.alloc (aa.drew (yt ‹_›)) _)|exact C.O _ (aa.trans (aa.drew (yt ‹_›)) (aa.mono (S:=λ_=>False) a0 λ_ e=>e.elim))|fail)
  (first
   |(go_at_call 104;refine(c4.O _ (aa.drew (yt ‹_›))).mono ?_;rintro e y ⟨z,c',rfl,cg,a0⟩)
   |(refine qE (c3.O _ (((oR.drew).trans a0).alloc _)) ix Tryz.underlying196 c1.O bx.O ?_;intro b8 c8 av)
   |fail)
 go_wp2_with fail;go_ret;have X:=b0.O;have D:=H.O.kp m.O nG;have d5:=b4.O.size;have d6:=m.O.size;have d7:=a0.size;have d8:u.drew.heap.size=u.heap.size:=rfl;have d9:=av.size;have cf:=jy y (.cells (bW ⟨i,t.M⟩ ⟨t,1,0,⟨0,0⟩,T,0,false⟩ z c') 208);obtain⟨a1,a4⟩:=eX (y.alloc (.cells (bW ⟨i,t.M⟩ ⟨t,1,0,⟨0,0⟩,T,0,false⟩ z c') 208));have bk:ae a1 y.heap.size 208 (bW ⟨i,t.M⟩ ⟨t,1,0,⟨0,0⟩,T,0,false⟩ z c'):=by rw[a4];exact bN
 have G:aa (λx=>x=mb) a1 b8:=by
  rw[a4];unfold bW;rw[<-b1.O];exact av
 have ar:ac y a1:=by rw[a4];exact oR.alloc _
 rw[<-a4] at cf;have cq:ac w a1:=(((b4.O.trans m.O).trans oR.drew).trans a0).trans ar;have j:=((D.kp oR.drew nG).kp a0 nG).kp ar nG;have da:=G.size;have cd:aJ b8 (λb=>u.heap.size<=b/\b<y.heap.size) z t.args:=(cg.kp ar nG).by_map G j.map;refine⟨rfl,y.heap.size,by omega,by omega,λr' an ch ci ck cm=>?_,(cq.mono λ_ e=>e.elim).trans (G.mono λb e=>by rw[e];exact j.fm)⟩;have d3:∀d,rows d≠none->d≠⟨i,t.M⟩:=λd E e=>E (by rw[e];exact b5.O)
 have cb:eE (λd=>((ax rows ⟨i,t.M⟩ (some r')) d).map λ_=>Value.pointer (some ⟨(λd=>open Classical in if d=⟨i,t.M⟩ then y.heap.size else rp d) d,0,none⟩))=iW (eE λd=>(rows d).map λ_=>Value.pointer (some ⟨rp d,0,none⟩)) (aW ⟨i,t.M⟩) (some (.pointer (some ⟨y.heap.size,0,none⟩))):=by
  rw[mQ]
  congr 1
  funext d
  by_cases e:d=⟨i,t.M⟩
  ·subst e
   simp[ay]
  ·simp[ag _ _ e,e]
 have bm:(eE (λd=>(rows d).map λ_=>Value.pointer (some ⟨rp d,0,none⟩)) (aW ⟨i,t.M⟩))=none:=by
  rw[iP,b5.O];rfl
 refine⟨.inl j.ft,.inl j.fm,G.J j.J (j.map.ne j.J),?_,λd q a6=>?_,λa b V N bq=>?_⟩
 ·rw[cb]
  have:=c8;unfold aW fe;unfold aW fe at bm;rw[bm] at this;exact this
 ·by_cases e:d=⟨i,t.M⟩
  ·subst e
   rw[ay] at a6
   cases a6
   refine⟨?_,b3.O,by rw[an];exact b2.O,z,c',?_,?_⟩
   ·simp only[yR]
    exact .inr ⟨by omega,by omega⟩
   ·simp only[yR]
    have:=G.J bk (j.map.ne bk);unfold bW at this ⊢;rw[an,ch,ci,ck,cm];exact this
   ·rw[an]
    exact cd.mo λb bf=>.inr ⟨by omega,by omega⟩
  ·rw[ag _ _ e] at a6
   obtain⟨V,N,c6,bv,c5,ba,c7⟩:=j.row d q a6;simp only[yb e];exact⟨.inl V,N,c6,bv,c5,G.J ba (j.map.ne ba),(c7.by_map G j.map).mo λb bf=>.inl bf⟩
 ·have bp:∀d,rows d≠none->rp d≠y.heap.size:=λd E e=>by
   cases hx:rows d with
   |none=>exact E hx
   |some q=>
    have:=bz.O _ (j.row d q hx).1;omega
  by_cases R:a=⟨i,t.M⟩
  ·by_cases B:b=⟨i,t.M⟩
   ·exact absurd (R.trans B.symm) bq
   ·rw[ag _ _ B] at N
    simp only[yf R,yb B];exact λe=>bp b N e.symm
  ·rw[ag _ _ R] at V
   by_cases B:b=⟨i,t.M⟩
   ·simp only[yb R,yf B]
    exact bp a V
   ·rw[ag _ _ B] at N
    simp only[yb R,yb B];exact j.inj a b V N bq
end
def kQ(w w':World)(F:Nat->Prop)(tb mb:Nat)(most:Int)(rows:Nm->Option aG)(cnt:Nat)(rp:Nm->Nat)(n:Nm)(t:aj)(fk:Bool):Prop:=
 ∃q,q<w'.heap.size/\w.heap.size<=q/\∀r',r'.tk=t->r'.sa=1->r'.opn=0->r'.res=⟨0,0⟩->r'.fk=fk->bS w' (λb=>F b\/w.heap.size<=b/\b<w'.heap.size) tb mb most (ax rows n (some r')) (cnt+1) (λm=>open Classical in if m=n then q else rp m)
section
variable {w w':World}{F F':Nat->Prop}{tb mb:Nat}{most:Int}{rows:Nm->Option aG}{cnt:Nat}{rp:Nm->Nat}{n:Nm}{r r':aG}
theorem kQ.back{c:World}{t:aj}{a:Bool}(e:kQ w w' F tb mb most rows cnt rp n t a)(v:c.heap.size<=w.heap.size):kQ c w' F tb mb most rows cnt rp n t a:=by
 obtain⟨q,g,x,i⟩:=e;exact⟨q,g,by omega,λr' k l m s u=>(i r' k l m s u).mo λb j=>j.imp id λd=>⟨by omega,d.2⟩⟩
theorem FG(d:Int)(t:aj)(A:Option Addr)(c:Nat)(C:Nat->Prop)(K:∀b,F b->b<w.heap.size)(H:bS w F tb mb most rows cnt rp)(z:dE ⟨d,t.M⟩)(S:rows ⟨d,t.M⟩=none)(P:(cnt:Int)<most)(R:most<=1000000)(N:aJ w C A t.args)(Q:t.args.length<=100000):
 Calls Tryz.prog 63 #[.pointer (some ⟨tb,0,none⟩),.int .u64 d,.agg (bX t A c)] w λa w'=>a=.returned (.int .i64 0)/\kQ w w' F tb mb most rows cnt rp ⟨d,t.M⟩ t false/\aa F w w':=by
 obtain⟨j,e⟩:=eX (w.alloc (.cells #[.string (sB t.M),.int .i64 t.fn,.slice A t.args.length c,.int .i64 (t.fuel:Int)] 30));have i:ac w j:=by rw[e];exact(aa.refl _ w).alloc _
 have k:ae j w.heap.size 30 #[.string (sB t.M),.int .i64 t.fn,.slice A t.args.length c,.int .i64 (t.fuel:Int)]:=by rw[e];exact bN
 have v:=H.kp i nG;have ad:∀W:World,(binOp .eql 196 (.map (some mb)) (.map none)).run Tryz.prog W=.ok (.bool false) W:=λ_=>rfl
 have ab:j.cell? ⟨tb,1,none⟩=some (.map (some mb)):=v.J.I 1;have a3:=hD (lQ t.M z.2)
 have s:Hd (∀W,ac j W->Calls Tryz.prog 115 #[.pointer (some ⟨tb,0,none⟩),.int .u64 d,.agg (bX t A c),.bool false] W λa w'=>a=.returned (.int .i64 0)/\kQ W w' F tb mb most rows cnt rp ⟨d,t.M⟩ t false/\aa F W w'):=hD λW x=>by
  refine(yn d t false A c C (λb a9=>?_) (v.kp x nG) z S P R ((N.kp i nG).kp x nG) Q).mono ?_
  ·have:=K b a9
   have:=i.size;have:=x.size;omega
  ·rintro a w' ⟨a4,q,a5,a6,a7,a8⟩
   exact⟨a4,⟨q,a5,a6,a7⟩,a8⟩
 obtain⟨l,m⟩:=eX t.args.length;obtain⟨g,y⟩:=eX w.heap.size;rw[<-y,<-m] at k;rw[<-m] at e;unfold bX at s ⊢;rw[<-m] at s ⊢;obtain⟨X,Y,Z,a0⟩:=k.gE4;have D:=hD i;have a1:=hD k;have a2:=hD y;have E:=hD e.symm;clear K H v z S P R N Q m y i k e;go_enter Tryz.func63,Tryz.ntmps63;go_upto_region 1 with fail;rw[E.O,<-a2.O];clear E;go_wp2_with fail;refine(a3.O _).mono ?_;rintro a ai ⟨rfl,B⟩;have u:=hD B;clear X Y Z a0;obtain⟨X,Y,Z,a0⟩:=((B.J a1.O nF)).gE4;clear B;go_wp2_with fail;refine(s.O _ u.O).mono ?_;rintro a al ⟨rfl,T,V⟩;have G:=hD (aI T V);clear T V;go_wp2_with fail;go_ret;have am:=D.O.size;have an:=u.O.size;exact⟨rfl,G.O.1.back (by omega),((D.O.mono λ_ a=>a.elim).trans (u.O.mono λ_ a=>a.elim)).trans G.O.2⟩
theorem mK(q:Nat)(n:Nm)(r:aG)(A:Option Addr)(c:Nat)(l:List UInt8)(x:UInt8)(s:n.M=l++ [x])(B:fU n.M)(w:World)(z:ae w q 208 (bW n r A c)):
 Calls Tryz.prog 105 #[.pointer (some ⟨q,0,none⟩)] w λk w'=>k=.returned (.agg #[.int .u64 n.job,.string (sB l)])/\ac w w':=by
 obtain⟨y,d⟩:=eX (w.alloc (.cells #[.int .u64 0,.string ⟨#[]⟩] 58));have t:ac w y:=by rw[d];exact(aa.refl _ w).alloc _
 have j:ae y w.heap.size 58 #[.int .u64 0,.string ⟨#[]⟩]:=by rw[d];exact bN
 have m:=t.J z nF;have K:=hD (pN l x (by rw[<-s];exact B));obtain⟨g,e⟩:=eX w.heap.size;rw[<-e] at j;have C:=m.I 1;simp[bW,s] at C;have D:=hD m;have E:=hD j;have H:=hD t;have u:=hD e;have v:=hD d.symm;clear z m j t e d s B;go_enter Tryz.func105,Tryz.ntmps105;go_upto_region 1 with fail;rw[v.O,<-u.O];clear v;go_wp2_with fail;refine(K.O _).mono ?_;rintro k Q ⟨rfl,i⟩;have N:=hD i;have a:=i.J E.O nF;have G:=hD a;have R:=(i.J D.O nF).I 0;simp[bW] at R;obtain⟨V,W⟩:=a.gE2;have S:=a.fz 0;have T:=a.fz 1;clear i a C;go_wp2_with fail;have P:ae ((Q.setCell ⟨g,0,none⟩ (.int .u64 n.job)).setCell ⟨g,1,none⟩ (.string (sB l))) g 58 #[.int .u64 n.job,.string (sB l)]:=(G.O.s_ 0 _).s_ 1 _;refine bodyPost_ret (cy Tryz.results105 rfl P Tryz.underlying58 rfl (by kernel_rfl)) rfl ?_;have e:=u.O;exact⟨rfl,(H.O.trans N.O).trans' ((af _ _ _ _).trans (af _ _ _ _)) (λb k=>.inr (by omega))⟩
end
def Eg(w w':World)(F:Nat->Prop)(tb mb:Nat)(most:Int)(rows:Nm->Option aG)(cnt:Nat)(rp:Nm->Nat)(m n:Nm)(r:aG)(t:aj):Prop:=
 ∃q,q<w'.heap.size/\w.heap.size<=q/\∀r' r1,r'.tk=t->r'.sa=1->r'.opn=0->r'.res=⟨0,0⟩->r'.fk=true->r1.tk=r.tk->r1.sa=r.sa->r1.opn=r.opn+1->r1.res=r.res->r1.fk=r.fk->
  bS w' (λb=>F b\/w.heap.size<=b/\b<w'.heap.size) tb mb most (ax (ax rows n (some r1)) m (some r')) (cnt+1) (λk=>open Classical in if k=m then q else rp k)
theorem Cf{α:Type}(f:Nm->α){n b:Nm}(x y:α)(d:n≠b):ax (ax f n x) b y=ax (ax f b y) n x:=by
 funext k
 by_cases a:k=n
 ·subst a
  rw[ag _ _ d,ay,ay]
 ·by_cases c:k=b
  ·subst c
   rw[ay,ag _ _ a,ay]
  ·rw[ag _ _ c,ag _ _ a,ag _ _ a,ag _ _ c]
section
variable {w w':World}{F F':Nat->Prop}{tb mb:Nat}{most:Int}{rows:Nm->Option aG}{cnt:Nat}{rp:Nm->Nat}{n:Nm}{r r':aG}
theorem Et(t:aj)(A:Option Addr)(c:Nat)(x:UInt8)(P:t.M=n.M++ [x])(ab:Nat->Prop)(aw:∀b,F b->b<w.heap.size)(av:bS w F tb mb most rows cnt rp)(b3:dE n)(a8:rows n=some r)(b5:r.sa=2)(c0:0<=r.opn/\r.opn<=100)
 (N:dE ⟨n.job,t.M⟩) (b2:rows ⟨n.job,t.M⟩=none) (aE:(cnt:Int)<most) (b1:most<=1000000) (az:aJ w ab A t.args) (b0:t.args.length<=100000):
 Calls Tryz.prog 141 #[.pointer (some ⟨tb,0,none⟩),aW n,.agg (bX t A c)] w λa w'=>a=.returned (.int .i64 0)/\Eg w w' F tb mb most rows cnt rp ⟨n.job,t.M⟩ n r t/\aa F w w':=by
 obtain⟨j,e⟩:=eX (((w.alloc (.cells #[.int .u64 n.job,.string (sB n.M)] 58)).alloc (.cells #[.string (sB t.M),.int .i64 t.fn,.slice A t.args.length c,.int .i64 (t.fuel:Int)] 30)).alloc (.cells #[.int .u8 2] 5));have z:ac w j:=by rw[e];exact(((aa.refl _ w).alloc _).alloc _).alloc _
 have a3:ae j w.heap.size 58 #[.int .u64 n.job,.string (sB n.M)]:=by rw[e];exact(bN.alloc _).alloc _
 have H:ae j (w.heap.size+1) 30 #[.string (sB t.M),.int .i64 t.fn,.slice A t.args.length c,.int .i64 (t.fuel:Int)]:=by
  rw[e,<-jy w (.cells #[.int .u64 n.job,.string (sB n.M)] 58)];exact bN.alloc _
 have ar:ae j (w.heap.size+1+1) 5 (([2]:List Int).map (Value.int .u8)).toArray:=by
  rw[e,<-pH w (.cells #[.int .u64 n.job,.string (sB n.M)] 58) (.cells #[.string (sB t.M),.int .i64 t.fn,.slice A t.args.length c,.int .i64 (t.fuel:Int)] 30)];exact bN
 have K:=av.kp z nG;have a1:=hD (mj (w.heap.size+1+1) 1 [2] K b3 a8 (by simp[b5]) (by decide) ar);have bo:=hD (lQ t.M N.2);have ai:=hD (pN n.M x (by rw[<-P];exact N.2));rw[<-P] at ai;have cg:IntKind.i64.wrap (r.opn+1)=r.opn+1:=by unfold IntKind.wrap;simp[IntKind.bits,IntKind.signed];omega
 have ch:wrap64 (r.opn+1)=r.opn+1:=by unfold wrap64;omega
 have a5:∀W,ac j W->∀b,F b->b<W.heap.size:=λW m b s=>by
  have:=aw b s;have:=z.size;have:=m.size;omega
 have Y:Hd (∀W,ac j W->Calls Tryz.prog 115 #[.pointer (some ⟨tb,0,none⟩),.int .u64 n.job,.agg (bX t A c),.bool true] W λa w'=>a=.returned (.int .i64 0)/\kQ W w' F tb mb most rows cnt rp ⟨n.job,t.M⟩ t true/\aa F W w'):=hD λW m=>by
  refine(yn n.job t true A c ab (a5 W m) (K.kp m nG) N b2 aE b1 ((az.kp z nG).kp m nG) b0).mono ?_;rintro a w' ⟨bq,q,br,bt,bv,bx⟩;exact⟨bq,⟨q,br,bt,bv⟩,bx⟩
 obtain⟨l,a7⟩:=eX t.args.length;obtain⟨g,a6⟩:=eX w.heap.size;rw[<-a6] at a3 H a1;rw[<-a7] at H e;unfold bX at Y ⊢;rw[<-a7] at Y ⊢;have bp:=hD K;have a2:=hD a8;have ad:=hD z;have Z:=hD a3;have a0:=hD H;have bn:=hD a6;have al:=hD e.symm;have cd:=hD a5
 have i:Hd (n≠⟨n.job,t.M⟩):=hD λa=>by
  have:=yl (λc8:Nm=>c8.M.length) a;simp[P] at this
 clear aw a5 av K N a8 aE b1 az b0 a7 a6 z a3 H ar e b3 b2 b5 c0 P;unfold aW fe at a1 ⊢;go_enter Tryz.func141,Tryz.ntmps141;go_wp2_with fail;rw[al.O,<-bn.O];refine a1.O.mono ?_;rintro a ci ⟨rfl,S⟩;have an:=hD S;obtain⟨B,C,D,E⟩:=((S.J a0.O nF)).gE4;obtain⟨v,y⟩:=((S.J Z.O nF)).gE2;clear S al;go_wp2_with fail;refine(ai.O _).mono ?_;rintro a ck ⟨rfl,b8⟩;have G:=hD (an.O.trans b8);clear b8 an B C D E v y;obtain⟨B,C,D,E⟩:=((G.O.J a0.O nF)).gE4;obtain⟨v,y⟩:=((G.O.J Z.O nF)).gE2;go_wp2_with fail;refine(bo.O _).mono ?_;rintro a cm ⟨rfl,b9⟩;have k:=hD (G.O.trans b9);clear b9 G B C D E v y;obtain⟨B,C,D,E⟩:=((k.O.J a0.O nF)).gE4;obtain⟨v,y⟩:=((k.O.J Z.O nF)).gE2;go_wp2_with fail;refine(Y.O _ k.O).mono ?_;rintro a c9 ⟨rfl,Q,R⟩;have am:=hD (aI Q R);obtain⟨q,ba,bb,V⟩:=Q;have u:=V ⟨t,1,0,⟨0,0⟩,true,0,false⟩ rfl rfl rfl rfl rfl;obtain⟨bf,bk,bm,X,a4,d,a9⟩:=u.row n r (by rw[ag _ _ i.O];exact a2.O);rw[yb i.O] at d;have cb:=d.I 7;have ce:=d.fz 7;simp[bW] at cb;have cf:=d.lt;clear R ba bb V u bf bk bm d a9 B C D E v y;go_wp2_with fail;go_ret;obtain⟨q,ba,bb,V⟩:=am.O.1;have cn:=ad.O.size;have cp:=k.O.size;have T:=af c9 (rp n) 7 (.int .i64 (r.opn+1));refine⟨rfl,⟨q,by have:=T.size;omega,by omega,λr' bc Q R c5 c6 c7 b7 c1 c2 c3 c4=>?_⟩,?_⟩
 ·have u:=(V r' Q R c5 c6 c7)
  have b4:(ax rows ⟨n.job,t.M⟩ (some r')) n=some r:=by rw[ag _ _ i.O];exact a2.O
  obtain⟨bf,bk,bm,X,a4,d,a9⟩:=u.row n r b4
  have b6:=u.turn (r':=bc) b4 (by rw[yb i.O];exact T) b7 d a9 (by
   rw[yb i.O] at d ⊢;have:=d.s_ 7 (.int .i64 (r.opn+1))
   have bz:(bW n r X a4).setIfInBounds 7 (.int .i64 (r.opn+1))=bW n bc X a4:=by
    simp[bW,b7,c1,c2,c3,c4]
   rw[bz] at this;exact this)
  rw[<-Cf _ _ _ i.O] at b6;exact b6.mo λb s=>s.imp id λa=>⟨by omega,lL a.2 T.size⟩
 ·have s:F (rp n):=(bp.O.row n r a2.O).1
  exact(((ad.O.mono λ_ a=>a.elim).trans (k.O.mono λ_ a=>a.elim)).trans am.O.2).trans (T.mono λb a=>by rw[a];exact s)
end
def eV(x:aL):Value:=.agg #[.int .i64 x.v,.int .i64 x.e]
section
variable {w w':World}{F F':Nat->Prop}{tb mb:Nat}{most:Int}{rows:Nm->Option aG}{cnt:Nat}{rp:Nm->Nat}{n:Nm}{r r':aG}
theorem bS.turn_eq(a:bS w F tb mb most rows cnt rp)(d:rows n=some r)(g:aa (λb=>b=rp n) w w')(i:r'.tk=r.tk)(j:∀A c,ae w (rp n) 208 (bW n r A c)->ae w' (rp n) 208 (bW n r' A c)):bS w' F tb mb most (ax rows n (some r')) cnt rp:=by
 obtain⟨l,m,q,A,c,e,k⟩:=a.row n r d;exact a.turn d g i e k (j A c e)
theorem aD{w w':World}{g i:Nat}{u:Value}(a:aa (λb=>b=g) w w'):aa (λb=>b=g) w (w'.setCell ⟨g,i,none⟩ u):=a.setCell (p:=⟨g,i,none⟩) (.inl rfl) u
theorem xD(w:World)(o a b:Obj):(((w.alloc o).alloc a).alloc b).heap.size=w.heap.size+1+1+1:=by simp
theorem Bv(x:aL)(a3:∀b,F b->b<w.heap.size)(a2:bS w F tb mb most rows cnt rp)(R:dE n)(S:rows n=some r)(a9:r.sa=2\/r.sa=5)(a8:r.fk=false):
 Calls Tryz.prog 54 #[.pointer (some ⟨tb,0,none⟩),aW n,eV x] w λa w'=>a=.returned (.tuple #[.agg #[.int .u64 0,.string ⟨#[]⟩],.bool false,.int .i64 0])/\
  (∀d,d.tk=r.tk->d.sa=6->d.opn=r.opn->d.res=x->d.fk=r.fk->bS w' F tb mb most (ax rows n (some d)) cnt rp)/\aa F w w':=by
 obtain⟨G,m⟩:=eX ((((w.alloc (.cells #[.int .u64 n.job,.string (sB n.M)] 58)).alloc (.cells #[.int .i64 x.v,.int .i64 x.e] 35)).alloc (.cells #[.int .u64 0,.string ⟨#[]⟩] 58)).alloc (.cells #[.int .u8 2,.int .u8 5] 5));have T:ac w G:=by rw[m];exact((((aa.refl _ w).alloc _).alloc _).alloc _).alloc _
 have N:ae G (w.heap.size+1) 35 #[.int .i64 x.v,.int .i64 x.e]:=by
  rw[m,<-jy w (.cells #[.int .u64 n.job,.string (sB n.M)] 58)];exact(bN.alloc _).alloc _
 have P:ae G (w.heap.size+1+1) 58 #[.int .u64 0,.string ⟨#[]⟩]:=by
  rw[m,<-pH w (.cells #[.int .u64 n.job,.string (sB n.M)] 58) (.cells #[.int .i64 x.v,.int .i64 x.e] 35)];exact bN.alloc _
 have a1:ae G (w.heap.size+1+1+1) 5 (([2,5]:List Int).map (Value.int .u8)).toArray:=by
  rw[m,<-xD w (.cells #[.int .u64 n.job,.string (sB n.M)] 58) (.cells #[.int .i64 x.v,.int .i64 x.e] 35) (.cells #[.int .u64 0,.string ⟨#[]⟩] 58)];exact bN
 have Q:=a2.kp T nG;have K:=hD (mj (w.heap.size+1+1+1) 2 [2,5] Q R S (by rcases a9 with a|a<;>simp[a]) (by decide) a1);obtain⟨g,B⟩:=eX w.heap.size;rw[<-B] at N P K;have a4:∀b,F b->b<g:=λb e=>by rw[B];exact a3 b e
 have aw:=hD a4;have Y:=hD Q;have X:=hD S;have az:=hD T;have H:=hD N;have j:=hD P;have V:=hD B;have b8:=hD R;have Z:=hD m.symm;clear a3 a4 a2 Q R S a9 B T N P a1 m;unfold eV;unfold aW fe at K ⊢;go_enter Tryz.func54,Tryz.ntmps54;go_wp2_with fail;rw[Z.O,<-V.O];refine K.O.mono ?_;rintro a y ⟨rfl,E⟩;have i:=hD E;obtain⟨l,D,q,A,c,s,t⟩:=Y.O.row n r X.O;have e:=E.J s nF;have a5:=t.kp E nG;have k:=hD (aI l (aI q (aI e a5)));have al:=e.I 6;have am:=e.I 8;have an:=e.I 9;have ai:=e.I 10;simp[bW,a8] at al am an ai;have b0:=e.fz 6;have b1:=e.fz 8;have b2:=e.fz 9;obtain⟨ar,av⟩:=((E.J H.O nF)).gE2;clear E l D q s t e a5 Z;go_wp2_with fail
 have a6:Hd (∀W,aa (λb=>b=rp n) y W->aa (λb=>b=rp n) y W/\W.cell? ⟨g+1,0,none⟩=some (.int .i64 x.v)/\W.cell? ⟨g+1,1,none⟩=some (.int .i64 x.e)):=hD λW a7=>by
  have ad:=a7.J (i.O.J H.O nF) (λa=>ae.ne_ (i.O.J H.O nF) k.O.2.2.1 (by decide) a);exact⟨a7,ad.I 0,ad.I 1⟩
 have b3:=a6.O y oR
 go_region_held3 (λw'=>aa (λb=>b=rp n) y w'/\w'.cell? ⟨g+1,0,none⟩=some (.int .i64 x.v)/\w'.cell? ⟨g+1,1,none⟩=some (.int .i64 x.e))
  (first|(refine a6.O _ ?_;repeat (first|with_reducible exact oR|with_reducible refine aa.drew ?_|with_reducible refine aD ?_))|fail) (fail)
 obtain⟨z,C⟩:=eX ((((y.setCell ⟨rp n,6,none⟩ (.int .u8 6)).setCell ⟨rp n,8,none⟩ (.int .i64 x.v)).setCell ⟨rp n,9,none⟩ (.int .i64 x.e)).drew);rw[<-C];have u:aa (λb=>b=rp n) y z:=by rw[C];exact(aD (aD (af _ _ _ _))).drew
 have aE:Hd (∀d,d.tk=r.tk->d.sa=6->d.opn=r.opn->d.res=x->d.fk=r.fk->bS z F tb mb most (ax rows n (some d)) cnt rp):=hD λd l D q s t=>by
  refine(Y.O.kp i.O nG).turn_eq X.O u l λA c e=>?_
  have:=((e.s_ 6 (.int .u8 6)).s_ 8 (.int .i64 x.v)).s_ 9 (.int .i64 x.e)
  have b6:(((bW n r A c).setIfInBounds 6 (.int .u8 6)).setIfInBounds 8 (.int .i64 x.v)).setIfInBounds 9 (.int .i64 x.e)=bW n d A c:=by
   simp[bW,l,D,q,s,t]
  rw[b6] at this;rw[C];exact this
 have a0:=hD u
 have b7:z.cell? ⟨rp n,10,none⟩=some (.bool r.fk):=by
  have:=(((k.O.2.2.1.s_ 6 (.int .u8 6)).s_ 8 (.int .i64 x.v)).s_ 9 (.int .i64 x.e)).drew.I 10;rw[C,this];simp[bW]
 rw[a8] at b7;clear al am an ai b0 b1 b2 C b3;clear ar av;obtain⟨ar,av⟩:=((u.J (i.O.J j.O nF) (λa=>ae.ne_ (i.O.J j.O nF) k.O.2.2.1 (by decide) a))).gE2;have b9:=((u.J (i.O.J j.O nF) (λa=>ae.ne_ (i.O.J j.O nF) k.O.2.2.1 (by decide) a))).fz 0;have ba:=((u.J (i.O.J j.O nF) (λa=>ae.ne_ (i.O.J j.O nF) k.O.2.2.1 (by decide) a))).fz 1;clear u;go_wp2_with fail;have B:=V.O;have b4:=a0.O.J (i.O.J j.O nF) (λa=>ae.ne_ (i.O.J j.O nF) k.O.2.2.1 (by decide) a);have b5:ae ((z.setCell ⟨g+1+1,0,none⟩ (.int .u64 0)).setCell ⟨g+1+1,1,none⟩ (.string ⟨#[]⟩)) (g+1+1) 58 #[.int .u64 0,.string ⟨#[]⟩]:=(b4.s_ 0 _).s_ 1 _;have ab:aa (λb=>b=g+1+1) z ((z.setCell ⟨g+1+1,0,none⟩ (.int .u64 0)).setCell ⟨g+1+1,1,none⟩ (.string ⟨#[]⟩)):=(af _ _ _ _).trans (af _ _ _ _);refine bodyPost_ret (jH Tryz.results54 rfl b5 Tryz.underlying58 rfl (by kernel_rfl)) rfl ?_;refine⟨rfl,λd l D q s t=>(aE.O d l D q s t).kp ab (λb e a=>by have:=aw.O b e;omega),?_⟩;exact(((az.O.mono λ_ a=>a.elim).trans (i.O.mono λ_ a=>a.elim)).trans (a0.O.mono λb a=>by rw[a];exact k.O.1)).trans' ab (λb a=>.inr (by omega))
theorem Dk(x:aL)(d:Nm)(l:List UInt8)(u:UInt8)(p:aG)(a8:d=⟨n.job,l⟩)(a9:n.M=l++ [u])(cf:∀b,F b->b<w.heap.size)(ce:bS w F tb mb most rows cnt rp)(bv:dE n)(bx:rows n=some r)(cm:r.sa=2\/r.sa=5)(a7:r.fk=true)
 (bz:rows d=some p) (d6:1<=p.opn/\p.opn<=100) (d7:0<p.opn-1\/p.sa≠3):
 Calls Tryz.prog 54 #[.pointer (some ⟨tb,0,none⟩),aW n,eV x] w λa w'=>a=.returned (.tuple #[.agg #[.int .u64 0,.string ⟨#[]⟩],.bool false,.int .i64 0])/\
  (∀i K,i.tk=r.tk->i.sa=6->i.opn=r.opn->i.res=x->i.fk=r.fk->K.tk=p.tk->K.sa=p.sa->K.opn=p.opn-1->K.res=p.res->K.fk=p.fk->bS w' F tb mb most (ax (ax rows n (some i)) d (some K)) cnt rp)/\aa F w w':=by
 obtain⟨bq,a1⟩:=eX ((((w.alloc (.cells #[.int .u64 n.job,.string (sB n.M)] 58)).alloc (.cells #[.int .i64 x.v,.int .i64 x.e] 35)).alloc (.cells #[.int .u64 0,.string ⟨#[]⟩] 58)).alloc (.cells #[.int .u8 2,.int .u8 5] 5));have c0:ac w bq:=by rw[a1];exact((((aa.refl _ w).alloc _).alloc _).alloc _).alloc _
 have br:ae bq (w.heap.size+1) 35 #[.int .i64 x.v,.int .i64 x.e]:=by
  rw[a1,<-jy w (.cells #[.int .u64 n.job,.string (sB n.M)] 58)];exact(bN.alloc _).alloc _
 have bt:ae bq (w.heap.size+1+1) 58 #[.int .u64 0,.string ⟨#[]⟩]:=by
  rw[a1,<-pH w (.cells #[.int .u64 n.job,.string (sB n.M)] 58) (.cells #[.int .i64 x.v,.int .i64 x.e] 35)];exact bN.alloc _
 have c7:ae bq (w.heap.size+1+1+1) 5 (([2,5]:List Int).map (Value.int .u8)).toArray:=by
  rw[a1,<-xD w (.cells #[.int .u64 n.job,.string (sB n.M)] 58) (.cells #[.int .i64 x.v,.int .i64 x.e] 35) (.cells #[.int .u64 0,.string ⟨#[]⟩] 58)];exact bN
 have X:=ce.kp c0 nG;have ad:=hD (mj (w.heap.size+1+1+1) 2 [2,5] X bv bx (by rcases cm with a|a<;>simp[a]) (by decide) c7);obtain⟨g,a3⟩:=eX w.heap.size;rw[<-a3] at br bt ad;have cg:∀b,F b->b<g:=λb e=>by rw[a3];exact cf b e
 have d2:=hD cg;have bo:=hD X;have bn:=hD bx;have d4:=hD c0;have a6:=hD br;have bk:=hD bt;have bm:=hD a3;have d3:=hD bv;have bp:=hD a1.symm
 by_cases d8:0<p.opn-1
 ·have d5:1<p.opn:=by omega
  have dk:decide (1<p.opn)=true:=yg d5;clear d7 d8
  have b0:d≠n:=λa=>by
   have:=yl (λk:Nm=>k.M.length) a;simp[a8,a9] at this
  have Y:=hD b0;have Z:=hD bz;have c4:=hD a9;have dm:IntKind.i64.wrap (p.opn-1)=p.opn-1:=by unfold IntKind.wrap;simp[IntKind.bits,IntKind.signed];omega
  have dn:wrap64 (p.opn-1)=p.opn-1:=by unfold wrap64;omega
  have al:=hD a8;clear cf cg ce X bv bx cm a3 c0 br bt c7 a1 a8 a9 bz d6 b0;unfold eV;unfold aW fe at ad ⊢;go_enter Tryz.func54,Tryz.ntmps54;go_wp2_with fail;rw[bp.O,<-bm.O];refine ad.O.mono ?_;rintro a H ⟨rfl,S⟩;have B:=hD S;obtain⟨y,R,E,A,c,G,z⟩:=bo.O.row n r bn.O;have e:=S.J G nF;have av:=z.kp S nG;have T:=hD (aI y (aI E (aI e av)));have b9:=e.I 6;have ba:=e.I 8;have bb:=e.I 9;have b8:=e.I 10;simp[bW,a7] at b9 ba bb b8;have c9:=e.fz 6;have cb:=e.fz 8;have cd:=e.fz 9;obtain⟨bc,bf⟩:=((S.J a6.O nF)).gE2;clear S y R E G z e av bp;go_wp2_with fail
  have aw:Hd (∀W,aa (λb=>b=rp n) H W->aa (λb=>b=rp n) H W/\W.cell? ⟨g+1,0,none⟩=some (.int .i64 x.v)/\W.cell? ⟨g+1,1,none⟩=some (.int .i64 x.e)):=hD λW q=>by
   have b4:=q.J (B.O.J a6.O nF) (λa=>ae.ne_ (B.O.J a6.O nF) T.O.2.2.1 (by decide) a);exact⟨q,b4.I 0,b4.I 1⟩
  have a0:=aw.O H oR
  go_region_held3 (λw'=>aa (λb=>b=rp n) H w'/\w'.cell? ⟨g+1,0,none⟩=some (.int .i64 x.v)/\w'.cell? ⟨g+1,1,none⟩=some (.int .i64 x.e))
   (first|(refine aw.O _ ?_;repeat (first|with_reducible exact oR|with_reducible refine aa.drew ?_|with_reducible refine aD ?_))|fail) (fail)
  obtain⟨m,Q⟩:=eX ((((H.setCell ⟨rp n,6,none⟩ (.int .u8 6)).setCell ⟨rp n,8,none⟩ (.int .i64 x.v)).setCell ⟨rp n,9,none⟩ (.int .i64 x.e)).drew);rw[<-Q];have a4:aa (λb=>b=rp n) H m:=by rw[Q];exact(aD (aD (af _ _ _ _))).drew
  have am:Hd (∀i,i.tk=r.tk->i.sa=6->i.opn=r.opn->i.res=x->i.fk=r.fk->bS m F tb mb most (ax rows n (some i)) cnt rp):=hD λi y R E G z=>by
   refine(bo.O.kp B.O nG).turn_eq bn.O a4 y λA c e=>?_
   have:=((e.s_ 6 (.int .u8 6)).s_ 8 (.int .i64 x.v)).s_ 9 (.int .i64 x.e)
   have a2:(((bW n r A c).setIfInBounds 6 (.int .u8 6)).setIfInBounds 8 (.int .i64 x.v)).setIfInBounds 9 (.int .i64 x.e)=bW n i A c:=by
    simp[bW,y,R,E,G,z]
   rw[a2] at this;rw[Q];exact this
  have an:=hD a4
  have cv:m.cell? ⟨rp n,10,none⟩=some (.bool r.fk):=by
   have:=(((T.O.2.2.1.s_ 6 (.int .u8 6)).s_ 8 (.int .i64 x.v)).s_ 9 (.int .i64 x.e)).drew.I 10;rw[Q,this];simp[bW]
  rw[a7] at cv;clear b9 ba bb b8 c9 cb cd Q a0;clear bc bf;have C:=am.O {r with sa:=6,res:=x} rfl rfl rfl rfl rfl;have c5:=hD C;have c8:m.cell? ⟨tb,1,none⟩=some (.map (some mb)):=C.J.I 1
  have c3:Hd (∀W,ac m W->Calls Tryz.prog 105 #[.pointer (some ⟨rp n,0,none⟩)] W λa w'=>a=.returned (.agg #[.int .u64 n.job,.string (sB l)])/\ac W w'):=hD λW q=>by
   obtain⟨a5,b5,b6,ab,ar,j,b7⟩:=(C.kp q nG).row n _ (ay _ _ _);exact mK (rp n) n _ ab ar l u c4.O d3.O.2 W j
  have ai:Hd (∀W,ac m W->(Instr.lookup 196 (.map (some mb)) (.agg #[.int .u64 n.job,.string (sB l)]) false).run Tryz.prog W=.ok (.pointer (some ⟨rp d,0,none⟩)) W):=hD λW q=>by
   have aE:=C.kp q nG;have P:ax rows n (some {r with sa:=6,res:=x}) d=some p:=by rw[ag _ _ Y.O];exact Z.O
   have:=aE.look (n:=d) (aE.row d p P).2.1 W rfl;rw[P,al.O] at this;rw[al.O];exact this
  have N:Hd (∀W,ac m W->ac m W/\W.cell? ⟨tb,1,none⟩=some (.map (some mb))):=hD λW q=>⟨q,(C.kp q nG).J.I 1⟩
  have a0:=N.O m oR;clear C a4 c8;go_wp2_with fail;go_upto_region 7 with fail
  go_region_held3 (λw'=>ac m w'/\w'.cell? ⟨tb,1,none⟩=some (.map (some mb)))
   (first|exact N.O _ (yt ‹_›)|exact N.O _ (aa.drew (yt ‹_›))|exact N.O _ (aa.trans (aa.drew (yt ‹_›)) s)|exact N.O _ (aa.trans (yt ‹_›) s)|fail)
   (first
    |(go_at_call 105;refine(c3.O _ (by first|exact aa.drew (yt ‹_›)|exact yt ‹_›)).mono ?_;rintro a t ⟨rfl,s⟩;have ci:=ai.O t (by first|exact aa.trans (aa.drew (yt ‹_›)) s|exact aa.trans (yt ‹_›) s);have ck:=ai.O t.drew (by first|exact(aa.trans (aa.drew (yt ‹_›)) s).drew|exact(aa.trans (yt ‹_›) s).drew))
    |fail)
  have V:Hd (ac m t):=hD ((oR.drew).trans s);have az:=c5.O.kp V.O nG;have P:ax rows n (some {r with sa:=6,res:=x}) d=some p:=by rw[ag _ _ Y.O];exact Z.O
  obtain⟨a5,b5,b6,ab,ar,j,b7⟩:=az.row d p P;have D:=(V.O.J (an.O.J (B.O.J bk.O nF) (λa=>ae.ne_ (B.O.J bk.O nF) T.O.2.2.1 (by decide) a)) nF)
  have c6:=hD (aI a5 j);have c1:=hD D;have c2:Hd (g+1+1≠rp d):=hD λa=>ae.ne_ D j (by decide) a
  have cw:=j.I 0;have cB:=j.I 1;have d0:=j.I 6;have d1:=j.I 7;simp[bW] at cw cB d0 d1;have db:=j.fz 6;have dd:=j.fz 7;obtain⟨bc,bf⟩:=D.gE2;have d9:=D.fz 0;have da:=D.fz 1;clear ci ck a0 s az P a5 b5 b6 j b7 D;go_wp2_with fail;have a3:=bm.O;have ch:ae (((t.setCell ⟨rp d,7,none⟩ (.int .i64 (p.opn-1))).setCell ⟨g+1+1,0,none⟩ (.int .u64 0)).setCell ⟨g+1+1,1,none⟩ (.string ⟨#[]⟩)) (g+1+1) 58 #[.int .u64 0,.string ⟨#[]⟩]:=((c1.O.far (p:=⟨rp d,7,none⟩) c2.O _).s_ 0 _).s_ 1 _;have b2:=af t (rp d) 7 (.int .i64 (p.opn-1));have b3:aa (λb=>b=g+1+1) (t.setCell ⟨rp d,7,none⟩ (.int .i64 (p.opn-1))) (((t.setCell ⟨rp d,7,none⟩ (.int .i64 (p.opn-1))).setCell ⟨g+1+1,0,none⟩ (.int .u64 0)).setCell ⟨g+1+1,1,none⟩ (.string ⟨#[]⟩)):=(af _ _ _ _).trans (af _ _ _ _);refine bodyPost_ret (jH Tryz.results54 rfl ch Tryz.underlying58 rfl (by kernel_rfl)) rfl ?_;refine⟨rfl,λi K y R E G z b1 cn cp cq cr=>?_,?_⟩
  ·have X:=((am.O i y R E G (by first|exact z|exact z.trans a7.symm)).kp V.O nG).turn_eq (n:=d) (r:=p) (r':=K) (by rw[ag _ _ Y.O];exact Z.O) b2 b1 (λA c e=>by
    have:=e.s_ 7 (.int .i64 (p.opn-1));have a2:(bW d p A c).setIfInBounds 7 (.int .i64 (p.opn-1))=bW d K A c:=by simp[bW,b1,cn,cp,cq,cr]
    rw[a2] at this;exact this)
   exact X.kp b3 (λb e a=>by have:=d2.O b e;omega)
  ·exact(((((d4.O.mono λ_ a=>a.elim).trans (B.O.mono λ_ a=>a.elim)).trans (an.O.mono λb a=>by rw[a];exact T.O.1)).trans (V.O.mono λ_ a=>a.elim)).trans (b2.mono λb a=>by rw[a];exact c6.O.1)).trans' b3 (λb a=>.inr (by omega))
 ·have dl:((p.sa:Int)==3)=false:=bF (by omega)
  have dp:((p.sa:Int) !=3)=true:=by simp[bne,dl]
  have d5:p.opn<=1:=by omega
  have dk:decide (1<p.opn)=false:=yd (by omega);clear d7 d8
  have b0:d≠n:=λa=>by
   have:=yl (λk:Nm=>k.M.length) a;simp[a8,a9] at this
  have Y:=hD b0;have Z:=hD bz;have c4:=hD a9;have dm:IntKind.i64.wrap (p.opn-1)=p.opn-1:=by unfold IntKind.wrap;simp[IntKind.bits,IntKind.signed];omega
  have dn:wrap64 (p.opn-1)=p.opn-1:=by unfold wrap64;omega
  have al:=hD a8;clear cf cg ce X bv bx cm a3 c0 br bt c7 a1 a8 a9 bz d6 b0;unfold eV;unfold aW fe at ad ⊢;go_enter Tryz.func54,Tryz.ntmps54;go_wp2_with fail;rw[bp.O,<-bm.O];refine ad.O.mono ?_;rintro a H ⟨rfl,S⟩;have B:=hD S;obtain⟨y,R,E,A,c,G,z⟩:=bo.O.row n r bn.O;have e:=S.J G nF;have av:=z.kp S nG;have T:=hD (aI y (aI E (aI e av)));have b9:=e.I 6;have ba:=e.I 8;have bb:=e.I 9;have b8:=e.I 10;simp[bW,a7] at b9 ba bb b8;have c9:=e.fz 6;have cb:=e.fz 8;have cd:=e.fz 9;obtain⟨bc,bf⟩:=((S.J a6.O nF)).gE2;clear S y R E G z e av bp;go_wp2_with fail
  have aw:Hd (∀W,aa (λb=>b=rp n) H W->aa (λb=>b=rp n) H W/\W.cell? ⟨g+1,0,none⟩=some (.int .i64 x.v)/\W.cell? ⟨g+1,1,none⟩=some (.int .i64 x.e)):=hD λW q=>by
   have b4:=q.J (B.O.J a6.O nF) (λa=>ae.ne_ (B.O.J a6.O nF) T.O.2.2.1 (by decide) a);exact⟨q,b4.I 0,b4.I 1⟩
  have a0:=aw.O H oR
  go_region_held3 (λw'=>aa (λb=>b=rp n) H w'/\w'.cell? ⟨g+1,0,none⟩=some (.int .i64 x.v)/\w'.cell? ⟨g+1,1,none⟩=some (.int .i64 x.e))
   (first|(refine aw.O _ ?_;repeat (first|with_reducible exact oR|with_reducible refine aa.drew ?_|with_reducible refine aD ?_))|fail) (fail)
  obtain⟨m,Q⟩:=eX ((((H.setCell ⟨rp n,6,none⟩ (.int .u8 6)).setCell ⟨rp n,8,none⟩ (.int .i64 x.v)).setCell ⟨rp n,9,none⟩ (.int .i64 x.e)).drew);rw[<-Q];have a4:aa (λb=>b=rp n) H m:=by rw[Q];exact(aD (aD (af _ _ _ _))).drew
  have am:Hd (∀i,i.tk=r.tk->i.sa=6->i.opn=r.opn->i.res=x->i.fk=r.fk->bS m F tb mb most (ax rows n (some i)) cnt rp):=hD λi y R E G z=>by
   refine(bo.O.kp B.O nG).turn_eq bn.O a4 y λA c e=>?_
   have:=((e.s_ 6 (.int .u8 6)).s_ 8 (.int .i64 x.v)).s_ 9 (.int .i64 x.e)
   have a2:(((bW n r A c).setIfInBounds 6 (.int .u8 6)).setIfInBounds 8 (.int .i64 x.v)).setIfInBounds 9 (.int .i64 x.e)=bW n i A c:=by
    simp[bW,y,R,E,G,z]
   rw[a2] at this;rw[Q];exact this
  have an:=hD a4
  have cv:m.cell? ⟨rp n,10,none⟩=some (.bool r.fk):=by
   have:=(((T.O.2.2.1.s_ 6 (.int .u8 6)).s_ 8 (.int .i64 x.v)).s_ 9 (.int .i64 x.e)).drew.I 10;rw[Q,this];simp[bW]
  rw[a7] at cv;clear b9 ba bb b8 c9 cb cd Q a0;clear bc bf;have C:=am.O {r with sa:=6,res:=x} rfl rfl rfl rfl rfl;have c5:=hD C;have c8:m.cell? ⟨tb,1,none⟩=some (.map (some mb)):=C.J.I 1
  have c3:Hd (∀W,ac m W->Calls Tryz.prog 105 #[.pointer (some ⟨rp n,0,none⟩)] W λa w'=>a=.returned (.agg #[.int .u64 n.job,.string (sB l)])/\ac W w'):=hD λW q=>by
   obtain⟨a5,b5,b6,ab,ar,j,b7⟩:=(C.kp q nG).row n _ (ay _ _ _);exact mK (rp n) n _ ab ar l u c4.O d3.O.2 W j
  have ai:Hd (∀W,ac m W->(Instr.lookup 196 (.map (some mb)) (.agg #[.int .u64 n.job,.string (sB l)]) false).run Tryz.prog W=.ok (.pointer (some ⟨rp d,0,none⟩)) W):=hD λW q=>by
   have aE:=C.kp q nG;have P:ax rows n (some {r with sa:=6,res:=x}) d=some p:=by rw[ag _ _ Y.O];exact Z.O
   have:=aE.look (n:=d) (aE.row d p P).2.1 W rfl;rw[P,al.O] at this;rw[al.O];exact this
  have N:Hd (∀W,ac m W->ac m W/\W.cell? ⟨tb,1,none⟩=some (.map (some mb))):=hD λW q=>⟨q,(C.kp q nG).J.I 1⟩
  have a0:=N.O m oR;clear C a4 c8;go_wp2_with fail;go_upto_region 7 with fail
  go_region_held3 (λw'=>ac m w'/\w'.cell? ⟨tb,1,none⟩=some (.map (some mb)))
   (first|exact N.O _ (yt ‹_›)|exact N.O _ (aa.drew (yt ‹_›))|exact N.O _ (aa.trans (aa.drew (yt ‹_›)) s)|exact N.O _ (aa.trans (yt ‹_›) s)|fail)
   (first
    |(go_at_call 105;refine(c3.O _ (by first|exact aa.drew (yt ‹_›)|exact yt ‹_›)).mono ?_;rintro a t ⟨rfl,s⟩;have ci:=ai.O t (by first|exact aa.trans (aa.drew (yt ‹_›)) s|exact aa.trans (yt ‹_›) s);have ck:=ai.O t.drew (by first|exact(aa.trans (aa.drew (yt ‹_›)) s).drew|exact(aa.trans (yt ‹_›) s).drew))
    |fail)
  have V:Hd (ac m t):=hD ((oR.drew).trans s);have az:=c5.O.kp V.O nG;have P:ax rows n (some {r with sa:=6,res:=x}) d=some p:=by rw[ag _ _ Y.O];exact Z.O
  obtain⟨a5,b5,b6,ab,ar,j,b7⟩:=az.row d p P;have D:=(V.O.J (an.O.J (B.O.J bk.O nF) (λa=>ae.ne_ (B.O.J bk.O nF) T.O.2.2.1 (by decide) a)) nF)
  have c6:=hD (aI a5 j);have c1:=hD D;have c2:Hd (g+1+1≠rp d):=hD λa=>ae.ne_ D j (by decide) a
  have cw:=j.I 0;have cB:=j.I 1;have d0:=j.I 6;have d1:=j.I 7;simp[bW] at cw cB d0 d1;have db:=j.fz 6;have dd:=j.fz 7;obtain⟨bc,bf⟩:=D.gE2;have d9:=D.fz 0;have da:=D.fz 1;clear ci ck a0 s az P a5 b5 b6 j b7 D;go_wp2_with fail;have a3:=bm.O;have ch:ae (((t.setCell ⟨rp d,7,none⟩ (.int .i64 (p.opn-1))).setCell ⟨g+1+1,0,none⟩ (.int .u64 0)).setCell ⟨g+1+1,1,none⟩ (.string ⟨#[]⟩)) (g+1+1) 58 #[.int .u64 0,.string ⟨#[]⟩]:=((c1.O.far (p:=⟨rp d,7,none⟩) c2.O _).s_ 0 _).s_ 1 _;have b2:=af t (rp d) 7 (.int .i64 (p.opn-1));have b3:aa (λb=>b=g+1+1) (t.setCell ⟨rp d,7,none⟩ (.int .i64 (p.opn-1))) (((t.setCell ⟨rp d,7,none⟩ (.int .i64 (p.opn-1))).setCell ⟨g+1+1,0,none⟩ (.int .u64 0)).setCell ⟨g+1+1,1,none⟩ (.string ⟨#[]⟩)):=(af _ _ _ _).trans (af _ _ _ _);refine bodyPost_ret (jH Tryz.results54 rfl ch Tryz.underlying58 rfl (by kernel_rfl)) rfl ?_;refine⟨rfl,λi K y R E G z b1 cn cp cq cr=>?_,?_⟩
  ·have X:=((am.O i y R E G (by first|exact z|exact z.trans a7.symm)).kp V.O nG).turn_eq (n:=d) (r:=p) (r':=K) (by rw[ag _ _ Y.O];exact Z.O) b2 b1 (λA c e=>by
    have:=e.s_ 7 (.int .i64 (p.opn-1));have a2:(bW d p A c).setIfInBounds 7 (.int .i64 (p.opn-1))=bW d K A c:=by simp[bW,b1,cn,cp,cq,cr]
    rw[a2] at this;exact this)
   exact X.kp b3 (λb e a=>by have:=d2.O b e;omega)
  ·exact(((((d4.O.mono λ_ a=>a.elim).trans (B.O.mono λ_ a=>a.elim)).trans (an.O.mono λb a=>by rw[a];exact T.O.1)).trans (V.O.mono λ_ a=>a.elim)).trans (b2.mono λb a=>by rw[a];exact c6.O.1)).trans' b3 (λb a=>.inr (by omega))
theorem Bw(x:aL)(a:Nm)(l:List UInt8)(u:UInt8)(p:aG)(ab:a=⟨n.job,l⟩)(ai:n.M=l++ [u])(ba:∀b,F b->b<w.heap.size)(b9:bS w F tb mb most rows cnt rp)(ad:dE n)(al:rows n=some r)(bp:r.sa=2\/r.sa=5)(a9:r.fk=true)
 (bo:rows a=some p) (cv:1<=p.opn/\p.opn<=100) (cw:p.opn=1/\p.sa=3):
 Calls Tryz.prog 54 #[.pointer (some ⟨tb,0,none⟩),aW n,eV x] w λd w'=>d=.returned (.tuple #[aW a,.bool true,.int .i64 0])/\
  (∀i s,i.tk=r.tk->i.sa=6->i.opn=r.opn->i.res=x->i.fk=r.fk->s.tk=p.tk->s.sa=4->s.opn=p.opn-1->s.res=p.res->s.fk=p.fk->bS w' F tb mb most (ax (ax rows n (some i)) a (some s)) cnt rp)/\aa F w w':=by
 obtain⟨a0,E⟩:=eX ((((w.alloc (.cells #[.int .u64 n.job,.string (sB n.M)] 58)).alloc (.cells #[.int .i64 x.v,.int .i64 x.e] 35)).alloc (.cells #[.int .u64 0,.string ⟨#[]⟩] 58)).alloc (.cells #[.int .u8 2,.int .u8 5] 5));have am:ac w a0:=by rw[E];exact((((aa.refl _ w).alloc _).alloc _).alloc _).alloc _
 have a5:ae a0 (w.heap.size+1) 35 #[.int .i64 x.v,.int .i64 x.e]:=by
  rw[E,<-jy w (.cells #[.int .u64 n.job,.string (sB n.M)] 58)];exact(bN.alloc _).alloc _
 have a6:ae a0 (w.heap.size+1+1) 58 #[.int .u64 0,.string ⟨#[]⟩]:=by
  rw[E,<-pH w (.cells #[.int .u64 n.job,.string (sB n.M)] 58) (.cells #[.int .i64 x.v,.int .i64 x.e] 35)];exact bN.alloc _
 have b7:ae a0 (w.heap.size+1+1+1) 5 (([2,5]:List Int).map (Value.int .u8)).toArray:=by
  rw[E,<-xD w (.cells #[.int .u64 n.job,.string (sB n.M)] 58) (.cells #[.int .i64 x.v,.int .i64 x.e] 35) (.cells #[.int .u64 0,.string ⟨#[]⟩] 58)];exact bN
 have Q:=b9.kp am nG;have a2:=hD (mj (w.heap.size+1+1+1) 2 [2,5] Q ad al (by rcases bp with d|d<;>simp[d]) (by decide) b7);obtain⟨g,R⟩:=eX w.heap.size;rw[<-R] at a5 a6 a2;have bb:∀b,F b->b<g:=λb e=>by rw[R];exact ba b e
 have c8:=hD bb;have b3:=hD Q;have b2:=hD al;have cb:=hD am;have a1:=hD a5;have aw:=hD a6;have az:=hD R;have c9:=hD ad;have b5:=hD E.symm;have cp:((p.sa:Int)==3)=true:=beq_iff_eq.2 (by omega);have dl:((p.sa:Int) !=3)=false:=by simp[bne,cp]
 have dk:p.opn<=1:=by omega
 have dd:decide (1<p.opn)=false:=yd (by omega);clear cw
 have bn:a≠n:=λd=>by
  have:=yl (λk:Nm=>k.M.length) d;simp[ab,ai] at this
 have a3:=hD bn;have a4:=hD bo;have ce:=hD ai;have dm:IntKind.i64.wrap (p.opn-1)=p.opn-1:=by unfold IntKind.wrap;simp[IntKind.bits,IntKind.signed];omega
 have dn:wrap64 (p.opn-1)=p.opn-1:=by unfold wrap64;omega
 have b0:=hD ab;clear ba bb b9 Q ad al bp R am a5 a6 b7 E ab ai bo cv bn;unfold eV;unfold aW fe at a2 ⊢;go_enter Tryz.func54,Tryz.ntmps54;go_wp2_with fail;rw[b5.O,<-az.O];refine a2.O.mono ?_;rintro d N ⟨rfl,X⟩;have C:=hD X;obtain⟨z,V,H,A,c,K,B⟩:=b3.O.row n r b2.O;have e:=X.J K nF;have bc:=B.kp X nG;have Y:=hD (aI z (aI H (aI e bc)));have c2:=e.I 6;have c3:=e.I 8;have c4:=e.I 9;have c1:=e.I 10;simp[bW,a9] at c2 c3 c4 c1;have ci:=e.fz 6;have ck:=e.fz 8;have cm:=e.fz 9;obtain⟨c5,c6⟩:=((X.J a1.O nF)).gE2;clear X z V H K B e bc b5;go_wp2_with fail
 have bf:Hd (∀W,aa (λb=>b=rp n) N W->aa (λb=>b=rp n) N W/\W.cell? ⟨g+1,0,none⟩=some (.int .i64 x.v)/\W.cell? ⟨g+1,1,none⟩=some (.int .i64 x.e)):=hD λW q=>by
  have bv:=q.J (C.O.J a1.O nF) (λd=>ae.ne_ (C.O.J a1.O nF) Y.O.2.2.1 (by decide) d);exact⟨q,bv.I 0,bv.I 1⟩
 have a7:=bf.O N oR
 go_region_held3 (λw'=>aa (λb=>b=rp n) N w'/\w'.cell? ⟨g+1,0,none⟩=some (.int .i64 x.v)/\w'.cell? ⟨g+1,1,none⟩=some (.int .i64 x.e))
  (first|(refine bf.O _ ?_;repeat (first|with_reducible exact oR|with_reducible refine aa.drew ?_|with_reducible refine aD ?_))|fail) (fail)
 obtain⟨m,T⟩:=eX ((((N.setCell ⟨rp n,6,none⟩ (.int .u8 6)).setCell ⟨rp n,8,none⟩ (.int .i64 x.v)).setCell ⟨rp n,9,none⟩ (.int .i64 x.e)).drew);rw[<-T];have an:aa (λb=>b=rp n) N m:=by rw[T];exact(aD (aD (af _ _ _ _))).drew
 have b4:Hd (∀i,i.tk=r.tk->i.sa=6->i.opn=r.opn->i.res=x->i.fk=r.fk->bS m F tb mb most (ax rows n (some i)) cnt rp):=hD λi z V H K B=>by
  refine(b3.O.kp C.O nG).turn_eq b2.O an z λA c e=>?_
  have:=((e.s_ 6 (.int .u8 6)).s_ 8 (.int .i64 x.v)).s_ 9 (.int .i64 x.e)
  have a8:(((bW n r A c).setIfInBounds 6 (.int .u8 6)).setIfInBounds 8 (.int .i64 x.v)).setIfInBounds 9 (.int .i64 x.e)=bW n i A c:=by
   simp[bW,z,V,H,K,B]
  rw[a8] at this;rw[T];exact this
 have b6:=hD an
 have d3:m.cell? ⟨rp n,10,none⟩=some (.bool r.fk):=by
  have:=(((Y.O.2.2.1.s_ 6 (.int .u8 6)).s_ 8 (.int .i64 x.v)).s_ 9 (.int .i64 x.e)).drew.I 10;rw[T,this];simp[bW]
 rw[a9] at d3;clear c2 c3 c4 c1 ci ck cm T a7;clear c5 c6;have D:=b4.O {r with sa:=6,res:=x} rfl rfl rfl rfl rfl;have cf:=hD D;have ch:m.cell? ⟨tb,1,none⟩=some (.map (some mb)):=D.J.I 1
 have cd:Hd (∀W,ac m W->Calls Tryz.prog 105 #[.pointer (some ⟨rp n,0,none⟩)] W λd w'=>d=.returned (.agg #[.int .u64 n.job,.string (sB l)])/\ac W w'):=hD λW q=>by
  obtain⟨ar,bx,bz,av,b8,j,c0⟩:=(D.kp q nG).row n _ (ay _ _ _);exact mK (rp n) n _ av b8 l u ce.O c9.O.2 W j
 have aE:Hd (∀W,ac m W->(Instr.lookup 196 (.map (some mb)) (.agg #[.int .u64 n.job,.string (sB l)]) false).run Tryz.prog W=.ok (.pointer (some ⟨rp a,0,none⟩)) W):=hD λW q=>by
  have bm:=D.kp q nG;have S:ax rows n (some {r with sa:=6,res:=x}) a=some p:=by rw[ag _ _ a3.O];exact a4.O
  have:=bm.look (n:=a) (bm.row a p S).2.1 W rfl;rw[S,b0.O] at this;rw[b0.O];exact this
 have P:Hd (∀W,ac m W->ac m W/\W.cell? ⟨tb,1,none⟩=some (.map (some mb))):=hD λW q=>⟨q,(D.kp q nG).J.I 1⟩
 have a7:=P.O m oR;clear D an ch;go_wp2_with fail;go_upto_region 7 with fail
 go_region_held3 (λw'=>ac m w'/\w'.cell? ⟨tb,1,none⟩=some (.map (some mb)))
  (first|exact P.O _ (yt ‹_›)|exact P.O _ (aa.drew (yt ‹_›))|exact P.O _ (aa.trans (aa.drew (yt ‹_›)) y)|exact P.O _ (aa.trans (yt ‹_›) y)|fail)
  (first
   |(go_at_call 105;refine(cd.O _ (by first|exact aa.drew (yt ‹_›)|exact yt ‹_›)).mono ?_;rintro d t ⟨rfl,y⟩;have cq:=aE.O t (by first|exact aa.trans (aa.drew (yt ‹_›)) y|exact aa.trans (yt ‹_›) y);have cr:=aE.O t.drew (by first|exact(aa.trans (aa.drew (yt ‹_›)) y).drew|exact(aa.trans (yt ‹_›) y).drew))
   |fail)
 have Z:Hd (ac m t):=hD ((oR.drew).trans y);have bk:=cf.O.kp Z.O nG;have S:ax rows n (some {r with sa:=6,res:=x}) a=some p:=by rw[ag _ _ a3.O];exact a4.O
 obtain⟨ar,bx,bz,av,b8,j,c0⟩:=bk.row a p S;have G:=(Z.O.J (b6.O.J (C.O.J aw.O nF) (λd=>ae.ne_ (C.O.J aw.O nF) Y.O.2.2.1 (by decide) d)) nF)
 have cg:=hD (aI ar j);have c7:=hD G;have b1:Hd (g+1+1≠rp a):=hD λd=>ae.ne_ G j (by decide) d
 have d4:=j.I 0;have d5:=j.I 1;have d6:=j.I 6;have d7:=j.I 7;simp[bW] at d4 d5 d6 d7;have da:=j.fz 6;have db:=j.fz 7;obtain⟨c5,c6⟩:=G.gE2;have d8:=G.fz 0;have d9:=G.fz 1;clear cq cr a7 y bk S ar bx bz j c0 G;go_wp2_with fail;have R:=az.O;have cn:ae ((((t.setCell ⟨rp a,7,none⟩ (.int .i64 (p.opn-1))).setCell ⟨rp a,6,none⟩ (.int .u8 4)).setCell ⟨g+1+1,0,none⟩ (.int .u64 a.job)).setCell ⟨g+1+1,1,none⟩ (.string (sB a.M))) (g+1+1) 58 #[.int .u64 a.job,.string (sB a.M)]:=(((c7.O.far (p:=⟨rp a,7,none⟩) b1.O _).far (p:=⟨rp a,6,none⟩) b1.O _).s_ 0 _).s_ 1 _;have br:aa (λb=>b=rp a) t ((t.setCell ⟨rp a,7,none⟩ (.int .i64 (p.opn-1))).setCell ⟨rp a,6,none⟩ (.int .u8 4)):=(af _ _ _ _).trans (af _ _ _ _);have bt:aa (λb=>b=g+1+1) ((t.setCell ⟨rp a,7,none⟩ (.int .i64 (p.opn-1))).setCell ⟨rp a,6,none⟩ (.int .u8 4)) ((((t.setCell ⟨rp a,7,none⟩ (.int .i64 (p.opn-1))).setCell ⟨rp a,6,none⟩ (.int .u8 4)).setCell ⟨g+1+1,0,none⟩ (.int .u64 a.job)).setCell ⟨g+1+1,1,none⟩ (.string (sB a.M))):=(af _ _ _ _).trans (af _ _ _ _);refine bodyPost_ret (jH Tryz.results54 rfl cn Tryz.underlying58 rfl (by kernel_rfl)) rfl ?_;refine⟨rfl,λi s z V H K B bq cB d0 d1 d2=>?_,?_⟩
 ·have Q:=((b4.O i z V H K (by first|exact B|exact B.trans a9.symm)).kp Z.O nG).turn_eq (n:=a) (r:=p) (r':=s) (by rw[ag _ _ a3.O];exact a4.O) br bq (λA c e=>by
   have:=(e.s_ 7 (.int .i64 (p.opn-1))).s_ 6 (.int .u8 4);have a8:((bW a p A c).setIfInBounds 7 (.int .i64 (p.opn-1))).setIfInBounds 6 (.int .u8 4)=bW a s A c:=by simp[bW,bq,cB,d0,d1,d2]
   rw[a8] at this;exact this)
  exact Q.kp bt (λb e d=>by have:=c8.O b e;omega)
 ·exact(((((cb.O.mono λ_ d=>d.elim).trans (C.O.mono λ_ d=>d.elim)).trans (b6.O.mono λb d=>by rw[d];exact Y.O.1)).trans (Z.O.mono λ_ d=>d.elim)).trans (br.mono λb d=>by rw[d];exact cg.O.1)).trans' bt (λb d=>.inr (by omega))
end
def eR(o:bK):List Value:=[.int .u8 o.k,.int .i64 o.d,.int .i64 o.a,.int .i64 o.b,.int .i64 o.n]
def cR(o:bK):Value:=.agg #[.int .u8 o.k,.int .i64 o.d,.int .i64 o.a,.int .i64 o.b,.int .i64 o.n]
def mt(b:Bool):Int:=if b then 1 else 0
theorem sQ(b:Bool)(w:World):Calls Tryz.prog 209 #[.bool b] w λa w'=>a=.returned (.int .i64 (mt b))/\ac w w':=by
 cases b
 ·go_enter Tryz.func209,Tryz.ntmps209
  go_wp2_with fail;go_ret;exact⟨rfl,oR⟩
 ·go_enter Tryz.func209,Tryz.ntmps209
  go_wp2_with fail;go_ret;exact⟨rfl,oR⟩
def fL:Option Int->Value
 |none=>.tuple #[.int .i64 0,.bool false]
 |some x=>.tuple #[.int .i64 x,.bool true]
theorem fg{w:World}{rb i:Nat}{regs:List Int}(a:ae w rb 2 (regs.map (Value.int .i64)).toArray)(b:i<regs.length):w.cell? ⟨rb,i,none⟩=some (.int .i64 (regs.getD i 0)):=by
 rw[a.I];simp[yc,b]
section
variable (fb rb cap:Nat)(cs:Array Value)(regs:List Int)(o:bK)(a' b':Nat)(w:World)
theorem Ae(B:ae w fb 232 cs)(s:cs[5]?=some (.slice (some ⟨rb,0,none⟩) regs.length cap))(z:ae w rb 2 (regs.map (Value.int .i64)).toArray)(y:a'<regs.length)(k:Int)(V:k=2):
 Calls Tryz.prog 177 #[.pointer (some ⟨fb,0,none⟩),.agg #[.int .u8 k,.int .i64 o.d,.int .i64 (a':Int),.int .i64 o.b,.int .i64 o.n]] w λT w'=>T=.returned (.tuple #[.int .i64 (regs.getD a' 0),.bool true])/\ac w w':=by
 obtain⟨c,e⟩:=eX (w.alloc (.cells #[.int .u8 k,.int .i64 o.d,.int .i64 (a':Int),.int .i64 o.b,.int .i64 o.n] 106));have i:ac w c:=by rw[e];exact(aa.refl _ w).alloc _
 have a:ae c w.heap.size 106 #[.int .u8 k,.int .i64 o.d,.int .i64 (a':Int),.int .i64 o.b,.int .i64 o.n]:=by rw[e];exact bN
 have j:=i.J z nF;have m:=i.J B nF;obtain⟨g,t⟩:=eX w.heap.size;obtain⟨l,u⟩:=eX regs.length;rw[<-t] at a;have S:c.cell? ⟨fb,5,none⟩=some (.slice (some ⟨rb,0,none⟩) l cap):=by rw[m.I,s,u]
 have W:=fg j y;generalize a1:regs.getD a' 0=A at*;have a2:(0:Int)<=(a':Int):=by omega
 have a3:(a':Int)<(l:Int):=by omega
 obtain⟨C,D,E,G,H⟩:=a.gE5;have K:=hD a;have X:=hD j;have Y:=hD m;have P:=hD i;have N:=hD t;have a0:=hD u;have Z:=hD s;have x:=hD e.symm;clear a j m i t u s z B y e;subst V;go_enter Tryz.func177,Tryz.ntmps177;go_upto_region 2 with fail;rw[x.O,<-N.O];clear x
 go_quiet (fail)
 obtain⟨R,q⟩:=eX (c.drewN nq);rw[<-q];have v:ac c R:=by rw[q];exact oR.drewN nq
 have Q:=hD (P.O.trans v);clear S C D E G H W q;have a:=v.J K.O nF;obtain⟨C,D,E,G,H⟩:=a.gE5;clear v a;go_wp2_with fail
 go_ret2
 exact⟨rfl,Q.O⟩
theorem iK(a3:ae w fb 232 cs)(Q:cs[5]?=some (.slice (some ⟨rb,0,none⟩) regs.length cap))(a1:ae w rb 2 (regs.map (Value.int .i64)).toArray)(a0:a'<regs.length)(a2:b'<regs.length)(a4:o.b=(b':Int))(k:Int)(r:Value)
 (ar:(k=3/\r=.tuple #[.int .i64 (wrap64 (regs.getD a' 0+regs.getD b' 0)),.bool true])\/(k=4/\r=.tuple #[.int .i64 (wrap64 (regs.getD a' 0-regs.getD b' 0)),.bool true])\/(k=5/\r=.tuple #[.int .i64 (wrap64 (regs.getD a' 0*regs.getD b' 0)),.bool true])\/(k=8/\r=.tuple #[.int .i64 (mt (decide (regs.getD a' 0<regs.getD b' 0))),.bool true])\/(k=9/\r=.tuple #[.int .i64 (mt (regs.getD a' 0==regs.getD b' 0)),.bool true])\/(k=6/\regs.getD b' 0=0/\r=.tuple #[.int .i64 0,.bool false])\/(k=7/\regs.getD b' 0=0/\r=.tuple #[.int .i64 0,.bool false])\/(k=6/\regs.getD b' 0≠0/\r=.tuple #[.int .i64 (wrap64 ((regs.getD a' 0).tdiv (regs.getD b' 0))),.bool true])\/(k=7/\regs.getD b' 0≠0/\r=.tuple #[.int .i64 ((regs.getD a' 0).tmod (regs.getD b' 0)),.bool true])):
 Calls Tryz.prog 177 #[.pointer (some ⟨fb,0,none⟩),.agg #[.int .u8 k,.int .i64 o.d,.int .i64 (a':Int),.int .i64 o.b,.int .i64 o.n]] w λK w'=>K=.returned r/\ac w w':=by
 rw[a4];have V:=hD a2;obtain⟨i,s⟩:=eX (w.alloc (.cells #[.int .u8 k,.int .i64 o.d,.int .i64 (a':Int),.int .i64 (b':Int),.int .i64 o.n] 106));have t:ac w i:=by rw[s];exact(aa.refl _ w).alloc _
 have a:ae i w.heap.size 106 #[.int .u8 k,.int .i64 o.d,.int .i64 (a':Int),.int .i64 (b':Int),.int .i64 o.n]:=by rw[s];exact bN
 have E:=t.J a1 nF;have G:=t.J a3 nF;obtain⟨g,R⟩:=eX w.heap.size;obtain⟨l,S⟩:=eX regs.length;rw[<-R] at a;have H:i.cell? ⟨fb,5,none⟩=some (.slice (some ⟨rb,0,none⟩) l cap):=by rw[G.I,Q,S]
 have az:=fg E a0;generalize aE:regs.getD a' 0=A at*;generalize an:regs.getD b' 0=B at*;have b0:(0:Int)<=(a':Int):=by omega
 have b1:(a':Int)<(l:Int):=by omega
 obtain⟨u,v,x,y,z⟩:=a.gE5;have a6:=hD a;have a7:=hD E;have a9:=hD G;have ai:=hD t;have ad:=hD R;have W:=hD S;have ab:=hD Q;have X:=hD s.symm;clear a E G t R S Q a1 a3 a0 s a2 a4
 rcases ar with⟨rfl,rfl⟩|⟨rfl,rfl⟩|⟨rfl,rfl⟩|⟨rfl,rfl⟩|⟨rfl,rfl⟩|⟨rfl,c,rfl⟩|⟨rfl,c,rfl⟩|⟨rfl,c,rfl⟩|⟨rfl,c,rfl⟩
 all_goals
  go_enter Tryz.func177,Tryz.ntmps177;go_upto_region 2 with fail;rw[X.O,<-ad.O];clear X
  go_quiet (fail)
  obtain⟨q,N⟩:=eX (i.drewN nq);rw[<-N];have j:ac i q:=by rw[N];exact oR.drewN nq
  have al:=hD (ai.O.trans j);clear H u v x y z az N;have a:=j.J a6.O nF;obtain⟨u,v,x,y,z⟩:=a.gE5;have Z:=j.J a9.O nF;have Y:=j.J a7.O nF;have a8:=hD a;have H:q.cell? ⟨fb,5,none⟩=some (.slice (some ⟨rb,0,none⟩) l cap):=by rw[Z.I,ab.O,W.O]
  have a5:=fg Y V.O;rw[an] at a5;have b2:(0:Int)<=(b':Int):=by omega
  have b3:(b':Int)<(l:Int):=by have:=V.O;have:=W.O;omega
  clear j a Z Y;go_wp2_with fail
  go_quiet (fail)
  obtain⟨D,P⟩:=eX (q.drewN nq);rw[<-P];have T:ac q D:=by rw[P];exact oR.drewN nq
  have e:=hD (al.O.trans T);clear u v x y z H a5 P;have a:=T.J a8.O nF;obtain⟨u,v,x,y,z⟩:=a.gE5;clear T a
 iterate 3 ·go_wp2_with fail;go_ret2;exact⟨rfl,e.O⟩
 ·go_wp2_with fail
  refine(sQ (decide (A<B)) D).mono ?_;rintro K am ⟨rfl,m⟩;have C:=hD (e.O.trans m);clear m;go_wp2_with fail
  go_ret2
  exact⟨rfl,C.O⟩
 ·go_wp2_with fail
  refine(sQ (A==B) D).mono ?_;rintro K am ⟨rfl,m⟩;have C:=hD (e.O.trans m);clear m;go_wp2_with fail
  go_ret2
  exact⟨rfl,C.O⟩
 iterate 2 ·subst c;go_wp2_with fail;go_ret2;exact⟨rfl,e.O⟩
 ·have av:(B==0)=false:=bF c
  have aw:¬B=0:=c;go_wp2_with fail;go_ret2;exact⟨rfl,e.O⟩
 ·have av:(B==0)=false:=bF c
  have aw:¬B=0:=c;go_wp2_with fail;go_ret2;exact⟨rfl,e.O⟩
end
def ju(x:Int):Prop:=-9223372036854775808<=x/\x<=9223372036854775807
theorem aU(x:Int):IntKind.i64.wrap x=wrap64 x:=by
 unfold IntKind.wrap wrap64;simp[IntKind.bits,IntKind.signed]
 try omega
theorem vT{x:Int}(a:ju x):wrap64 x=x:=by
 unfold ju at a;unfold wrap64;omega
theorem vP{x y:Int}(d:ju x):ju (x.tmod y):=by
 unfold ju at*
 have e:(x.tmod y).natAbs<=x.natAbs:=by
  rw[Int.natAbs_tmod];exact Nat.mod_le _ _
 by_cases b:0<=x
 ·have:=Int.tmod_nonneg y b
  omega
 ·have c:=Int.tmod_nonneg y (a:=-x) (by omega)
  rw[Int.neg_tmod] at c;omega
theorem Cn(fb rb cap:Nat)(cs:Array Value)(regs:List Int)(o:bK)(w:World)(i:ae w fb 232 cs)(g:cs[5]?=some (.slice (some ⟨rb,0,none⟩) regs.length cap))(e:ae w rb 2 (regs.map (Value.int .i64)).toArray)(E:∀x∈regs,ju x)
 (N:2<=o.k/\o.k<=9) (K:0<=o.a/\o.a<regs.length) (D:o.k≠2->0<=o.b/\o.b<regs.length):
 Calls Tryz.prog 177 #[.pointer (some ⟨fb,0,none⟩),cR o] w λq w'=>q=.returned (fL (du o.k (ct regs o.a) (ct regs o.b)))/\ac w w':=by
 obtain⟨k,d,a,b,n⟩:=o;simp only at*;obtain⟨a',rfl⟩ :∃a':Nat,a=a':=⟨a.toNat,by omega⟩
 have c:a'<regs.length:=by omega
 have C:ju (regs.getD a' 0):=by
  rw[yc,gG c];exact E _ (yN c)
 unfold cR ct du;simp only[yo]
 by_cases s:k=2
 ·rw[yf s]
  exact Ae fb rb cap cs regs ⟨k,d,a',b,n⟩ a' w i g e c k s
 ·obtain⟨G,H⟩:=D s
  obtain⟨b',rfl⟩ :∃b':Nat,b=b':=⟨b.toNat,by omega⟩
  have j:b'<regs.length:=by omega
  simp only[yo,aU];rw[yb s]
  by_cases v:k=3
  ·rw[yf v]
   exact iK fb rb cap cs regs ⟨k,d,a',b',n⟩ a' b' w i g e c j rfl k _ (.inl ⟨v,rfl⟩)
  rw[yb v]
  by_cases y:k=4
  ·rw[yf y]
   exact iK fb rb cap cs regs ⟨k,d,a',b',n⟩ a' b' w i g e c j rfl k _ (.inr (.inl ⟨y,rfl⟩))
  rw[yb y]
  by_cases z:k=5
  ·rw[yf z]
   exact iK fb rb cap cs regs ⟨k,d,a',b',n⟩ a' b' w i g e c j rfl k _ (.inr (.inr (.inl ⟨z,rfl⟩)))
  rw[yb z]
  by_cases t:k=6
  ·rw[yf t]
   by_cases l:regs.getD b' 0=0
   ·rw[yf l]
    exact iK fb rb cap cs regs ⟨k,d,a',b',n⟩ a' b' w i g e c j rfl k _ (.inr (.inr (.inr (.inr (.inr (.inl ⟨t,l,rfl⟩))))))
   ·rw[yb l]
    exact iK fb rb cap cs regs ⟨k,d,a',b',n⟩ a' b' w i g e c j rfl k _ (.inr (.inr (.inr (.inr (.inr (.inr (.inr (.inl ⟨t,l,rfl⟩))))))))
  rw[yb t]
  by_cases u:k=7
  ·rw[yf u]
   by_cases l:regs.getD b' 0=0
   ·rw[yf l]
    exact iK fb rb cap cs regs ⟨k,d,a',b',n⟩ a' b' w i g e c j rfl k _ (.inr (.inr (.inr (.inr (.inr (.inr (.inl ⟨u,l,rfl⟩)))))))
   ·rw[yb l,vT (vP C)]
    exact iK fb rb cap cs regs ⟨k,d,a',b',n⟩ a' b' w i g e c j rfl k _ (.inr (.inr (.inr (.inr (.inr (.inr (.inr (.inr ⟨u,l,rfl⟩))))))))
  rw[yb u]
  by_cases B:k=8
  ·rw[yf B]
   have:=iK fb rb cap cs regs ⟨k,d,a',b',n⟩ a' b' w i g e c j rfl k _ (.inr (.inr (.inr (.inl ⟨B,rfl⟩))))
   have q:mt (decide (regs.getD a' 0<regs.getD b' 0))=if regs.getD a' 0<regs.getD b' 0 then 1 else 0:=by
    unfold mt
    by_cases m:regs.getD a' 0<regs.getD b' 0<;>simp only[m,decide_true,decide_false,yR,Yi]<;>rfl
   rw[q] at this;exact this
  rw[yb B];have:=iK fb rb cap cs regs ⟨k,d,a',b',n⟩ a' b' w i g e c j rfl k _ (.inr (.inr (.inr (.inr (.inl ⟨by omega,rfl⟩)))))
  have q:mt (regs.getD a' 0==regs.getD b' 0)=if regs.getD a' 0=regs.getD b' 0 then 1 else 0:=by
   unfold mt
   by_cases m:regs.getD a' 0=regs.getD b' 0
   ·rw[yf m,beq_iff_eq.2 m];rfl
   ·rw[yb m,bF m];rfl
  rw[q] at this;exact this
def dA(w:World)(F:Nat->Prop)(A:Option Addr)(ops:List bK):Prop:=
 (A=none/\ops= [])\/∃b o,A=some ⟨b,o,none⟩/\∀(k:Nat) (x:bK),ops[k]?=some x->F b/\(∃zs,ae w b 106 zs)/\∀(j:Nat) (v:Value),(eR x)[j]?=some v->w.cell? ⟨b,o+k*5+j,none⟩=some v
def cW(w:World)(F:Nat->Prop)(A:Option Addr)(p:List ah):Prop:=
 (A=none/\p= [])\/∃b o,A=some ⟨b,o,none⟩/\∀(i:Nat) (x:ah),p[i]?=some x->F b/\(∃zs,ae w b 99 zs)/\w.cell? ⟨b,o+i*3,none⟩=some (.int .i64 x.args)/\w.cell? ⟨b,o+i*3+1,none⟩=some (.int .i64 x.rg)/\
  ∃B c,w.cell? ⟨b,o+i*3+2,none⟩=some (.slice B x.ops.length c)/\dA w F B x.ops
section
variable {w w':World}{F F':Nat->Prop}{A:Option Addr}{ops:List bK}{p:List ah}
theorem dA.mo(a:dA w F A ops)(g:∀b,F b->F' b):dA w F' A ops:=by
 rcases a with a|⟨b,o,e,c⟩
 ·exact .inl a
 ·exact .inr ⟨b,o,e,λk x d=>⟨g _ (c k x d).1,(c k x d).2⟩⟩
theorem dA.kp{S:Nat->Prop}(d:dA w F A ops)(g:aa S w w')(e:∀b,F b->¬S b):dA w' F A ops:=by
 rcases d with d|⟨b,o,i,a⟩
 ·exact .inl d
 ·refine .inr ⟨b,o,i,λk x c=>⟨(a k x c).1,(a k x c).2.1.imp λq m=>g.J m (e b (a k x c).1),λj v l=>?_⟩⟩
  have:=(a k x c).2.2 j v l;exact(g.I (p:=⟨b,o+k*5+j,none⟩) (block_lt_of_cell this) (e b (a k x c).1)).trans this
theorem cW.mo(a:cW w F A p)(d:∀b,F b->F' b):cW w F' A p:=by
 rcases a with a|⟨b,o,e,g⟩
 ·exact .inl a
 ·refine .inr ⟨b,o,e,λi x j=>?_⟩
  obtain⟨l,k,m,q,B,c,s,t⟩:=g i x j;exact⟨d _ l,k,m,q,B,c,s,t.mo d⟩
theorem cW.kp{S:Nat->Prop}(d:cW w F A p)(g:aa S w w')(e:∀b,F b->¬S b):cW w' F A p:=by
 rcases d with d|⟨b,o,l,m⟩
 ·exact .inl d
 ·refine .inr ⟨b,o,l,λi x q=>?_⟩
  obtain⟨k,t,u,y,B,c,z,C⟩:=m i x q;have a:∀(j:Nat) (v:Value),w.cell? ⟨b,j,none⟩=some v->w'.cell? ⟨b,j,none⟩=some v:=λj v hv=>(g.I (p:=⟨b,j,none⟩) (block_lt_of_cell hv) (e b k)).trans hv
  exact⟨k,t.imp λD s=>g.J s (e b k),a _ _ u,a _ _ y,B,c,a _ _ z,C.kp g e⟩
theorem dA.by_type{q:Nat}{T:TypeId}{cs:Array Value}(a:dA w F A ops)(g:aa (λb=>b=q) w w')(s:ae w q T cs)(c:106≠T):dA w' F A ops:=by
 rcases a with a|⟨b,o,c,m⟩
 ·exact .inl a
 ·refine .inr ⟨b,o,c,λk x t=>?_⟩
  obtain⟨u,⟨y,i⟩,l⟩:=m k x t;have e:b≠q:=ae.ne_ i s (by assumption);exact⟨u,⟨y,g.J i e⟩,λj v d=>(g.I (p:=⟨b,o+k*5+j,none⟩) (block_lt_of_cell (l j v d)) e).trans (l j v d)⟩
theorem cW.by_type{q:Nat}{T:TypeId}{cs:Array Value}(d:cW w F A p)(e:aa (λb=>b=q) w w')(g:ae w q T cs)(E:106≠T)(G:99≠T):cW w' F A p:=by
 rcases d with d|⟨b,o,m,s⟩
 ·exact .inl d
 ·refine .inr ⟨b,o,m,λi x t=>?_⟩
  obtain⟨u,⟨H,l⟩,y,z,B,c,C,D⟩:=s i x t;have k:b≠q:=ae.ne_ l g G;have a:∀(j:Nat) (v:Value),w.cell? ⟨b,j,none⟩=some v->w'.cell? ⟨b,j,none⟩=some v:=λj v hv=>(e.I (p:=⟨b,j,none⟩) (block_lt_of_cell hv) k).trans hv
  exact⟨u,⟨H,e.J l k⟩,a _ _ y,a _ _ z,B,c,a _ _ C,D.by_type e g E⟩
end
def gh(k:cZ):List Value:=[.int .i64 k.into,.bool k.given,.int .i64 k.r.v,.int .i64 k.r.e]
structure iC where
 PA:Option Addr
 pc:Nat
 args:Value
 fuel:Int
 rb:Nat
 rc:Nat
 kv:Value
 wp:Value
 rp:Value
def cY(L:iC)(p:List ah)(f:Fr):Array Value:=
 #[.slice L.PA p.length L.pc,.string (sB f.M),.int .i64 f.fn,L.args,.int .i64 L.fuel,.slice (some ⟨L.rb,0,none⟩) f.rg.length L.rc,.int .i64 (f.left:Int),.int .i64 f.at_,L.kv,.int .i64 (f.joined:Int),L.wp,L.rp]
structure aZ(w:World)(F:Nat->Prop)(fb:Nat)(L:iC)(p:List ah)(f:Fr):Prop where
 ff:F fb
 fr:F L.rb
 fk:∀b,L.kv.ownBlock=some b->F b
 J:ae w fb 232 (cY L p f)
 fns:cW w F L.PA p
 rg:ae w L.rb 2 (f.rg.map (Value.int .i64)).toArray
 kd:w.ownsRow 0 260 4 L.kv f.kd.length (f.kd.flatMap gh)
 wp:match f.waits with
  |none=>L.wp=.pointer none
  |some o=>∃q,F q/\L.wp=.pointer (some ⟨q,0,none⟩)/\ae w q 106 (eR o).toArray
 rp:f.result=none->L.rp=.pointer none
 cap:f.rg.length<=L.rc
section
variable {w w':World}{F F':Nat->Prop}{fb:Nat}{L:iC}{p:List ah}{f:Fr}
theorem aZ.mo(a:aZ w F fb L p f)(c:∀b,F b->F' b):aZ w F' fb L p f:=by
 refine⟨c _ a.ff,c _ a.fr,λb i=>c _ (a.fk b i),a.J,a.fns.mo c,a.rg,a.kd,?_,a.rp,a.cap⟩;have:=a.wp;split<;>rename_i d<;>rw[d] at this
 ·exact this
 ·obtain⟨q,e,g⟩:=this
  exact⟨q,c _ e,g⟩
theorem aZ.kp{S:Nat->Prop}(a:aZ w F fb L p f)(d:aa S w w')(c:∀b,F b->¬S b):aZ w' F fb L p f:=by
 refine⟨a.ff,a.fr,a.fk,d.J a.J (c _ a.ff),a.fns.kp d c,d.J a.rg (c _ a.fr),d.owns a.kd (λk l=>c _ (a.fk k l)),?_,a.rp,a.cap⟩;have:=a.wp;split<;>rename_i g<;>rw[g] at this
 ·exact this
 ·obtain⟨q,e,i,j⟩:=this
  exact⟨q,e,i,d.J j (c _ e)⟩
end
theorem aZ.td{w w':World}{F:Nat->Prop}{fb:Nat}{L c:iC}{p:List ah}{f f':Fr}(a:aZ w F fb L p f)(e:aa (λb=>b=fb) w w')(t:ae w' fb 232 (cY c p f'))
 (l:c.PA=L.PA) (g:c.rb=L.rb) (i:c.kv=L.kv) (j:f'.rg=f.rg) (m:f'.kd=f.kd) (s:c.rc=L.rc)
 (x:match f'.waits with
  |none=>c.wp=.pointer none
  |some o=>∃q,F q/\c.wp=.pointer (some ⟨q,0,none⟩)/\ae w' q 106 (eR o).toArray) (v:f'.result=none->c.rp=.pointer none):aZ w' F fb c p f':=by
 refine⟨a.ff,by rw[g];exact a.fr,by rw[i];exact a.fk,t,by rw[l];exact a.fns.by_type e a.J (by decide) (by decide),?_,?_,x,v,by rw[j,s];exact a.cap⟩
 ·rw[g,j]
  exact e.J a.rg (λd=>ae.ne_ a.rg a.J (by decide) d)
 ·rw[i,m]
  exact e.owns a.kd (λk u d=>aA a.kd a.J (by decide) (by rw[u,d]))
theorem aZ.wp_keep{w w':World}{F:Nat->Prop}{fb:Nat}{L:iC}{p:List ah}{f:Fr}(c:aZ w F fb L p f)(i:aa (λb=>b=fb) w w'):match f.waits with
 |none=>L.wp=.pointer none
 |some o=>∃q,F q/\L.wp=.pointer (some ⟨q,0,none⟩)/\ae w' q 106 (eR o).toArray:=by
 have:=c.wp;split<;>rename_i a<;>rw[a] at this
 ·exact this
 ·obtain⟨q,e,g,d⟩:=this
  exact⟨q,e,g,i.J d (λa=>ae.ne_ d c.J (by decide) a)⟩
def nP(x:aL):Array Value:=#[.int .u8 4,.string ⟨#[]⟩,.int .i64 0,.slice none 0 0,.int .i64 0,.int .i64 x.v,.int .i64 x.e]
def jJ(w w':World)(F:Nat->Prop)(fb:Nat)(L:iC)(p:List ah)(f:Fr)(x:aL)(e:Ending):Prop:=
 ∃q v,e=.returned (.pointer (some ⟨q,0,none⟩))/\w.heap.size<=q/\ae w' q 181 (nP x)/\aZ w' F fb {L with rp:=v} p {f with result:=some x}/\aa (λb=>b=fb) w w'
section
variable {w w':World}{F F':Nat->Prop}{fb:Nat}{L:iC}{p:List ah}{f:Fr}
theorem mP(x:aL)(q:∀b,F b->b<w.heap.size)(m:aZ w F fb L p f):Calls Tryz.prog 174 #[.pointer (some ⟨fb,0,none⟩),eV x] w λa w'=>jJ w w' F fb L p f x a:=by
 obtain⟨c,i⟩:=eX (w.alloc (.cells #[.int .i64 x.v,.int .i64 x.e] 35));have s:ac w c:=by rw[i];exact(aa.refl _ w).alloc _
 have d:ae c w.heap.size 35 #[.int .i64 x.v,.int .i64 x.e]:=by rw[i];exact bN
 have e:=m.kp s nG;have E:=e.J.I 11;have N:=e.J.fz 11;simp[cY] at E;obtain⟨g,j⟩:=eX w.heap.size;rw[<-j] at d;obtain⟨P,Q⟩:=d.gE2;have D:fb≠g:=λa=>by have:=q fb m.ff;omega
 have l:=hD e;have G:=hD d;have u:=hD s;have t:=hD j;have K:=hD D;have H:=hD q;have y:=hD i.symm;clear m e d s j i q;unfold eV;go_enter Tryz.func174,Tryz.ntmps174;go_upto_region 1 with fail;rw[y.O,<-t.O];clear y;go_wp2_with fail;go_ret;have j:=t.O;have k:=af c fb 11 (.pointer (some ⟨g,0,none⟩));have C:ae (c.setCell ⟨fb,11,none⟩ (.pointer (some ⟨g,0,none⟩))) fb 232 (cY {L with rp:=.pointer (some ⟨g,0,none⟩)} p {f with result:=some x}):=l.O.J.s_ 11 _;have B:aZ _ F fb {L with rp:=.pointer (some ⟨g,0,none⟩)} p {f with result:=some x}:=l.O.td k C rfl rfl rfl rfl rfl rfl (l.O.wp_keep k) (λa=>by cases a);have z:ac (c.setCell ⟨fb,11,none⟩ (.pointer (some ⟨g,0,none⟩))) ((c.setCell ⟨fb,11,none⟩ (.pointer (some ⟨g,0,none⟩))).alloc (.cells (nP x) 181)):=oR.alloc _;refine⟨(c.setCell ⟨fb,11,none⟩ (.pointer (some ⟨g,0,none⟩))).heap.size,.pointer (some ⟨g,0,none⟩),by simp,?_,bN,B.kp z nG,((u.O.mono λ_ a=>a.elim).trans k).trans (z.mono λ_ a=>a.elim)⟩;have:=k.size;have:=u.O.size;omega
theorem lW(c:Int)(i:∀b,F b->b<w.heap.size)(e:aZ w F fb L p f):Calls Tryz.prog 173 #[.pointer (some ⟨fb,0,none⟩),.int .i64 c] w λd w'=>jJ w w' F fb L p f ⟨0,c⟩ d:=by
 have a:=hD (mP (x:=⟨0,c⟩) i e);clear e i;unfold eV at a;go_enter Tryz.func173,Tryz.ntmps173;go_wp2_with fail;refine a.O.mono ?_;rintro d w' ⟨q,v,rfl,g⟩;have j:=hD g;clear g a;go_wp2_with fail;go_ret;exact⟨q,v,rfl,j.O⟩
theorem mh(a:aZ w F fb L p f)(b:p≠[]):Calls Tryz.prog 138 #[.pointer (some ⟨fb,0,none⟩)] w λc w'=>c=.returned (.bool false)/\w=w':=by
 have d:=a.J.I 0;simp[cY] at d;have e:((p.length:Int)==0)=false:=bF (by have:=zK.2 b;omega);generalize (p.length:Nat)=n at*;clear a b;go_enter Tryz.func138,Tryz.ntmps138;go_wp2_with fail;go_ret;exact⟨rfl,rfl⟩
end
theorem jL:∀(l:List cZ) (i j:Nat) (k:cZ),l[i]?=some k->j<4->(l.flatMap gh)[i*4+j]?=(gh k)[j]?
 | [],i,j,k,b,_=>by simp at b
 |a :: l,0,j,k,b,c=>by
  simp only[zQ,yC] at b;subst b;rw[yZ,yi (by simp[gh];omega)];simp
 |a :: l,i+1,j,k,b,c=>by
  rw[yZ,yK (by simp[gh];omega)];have:(i+1)*4+j-(gh a).length=i*4+j:=by simp[gh];omega
  rw[this];exact jL l i j k (by simpa using b) c
theorem tQ:∀(l:List cZ) (i:Nat) (k:cZ) (r:aL),l[i]?=some k->
 (((l.flatMap gh).set (i*4+1) (.bool true)).set (i*4+2) (.int .i64 r.v)).set (i*4+3) (.int .i64 r.e)=(l.set i ⟨k.into,true,r⟩).flatMap gh
 | [],i,k,r,b=>by simp at b
 |a :: l,0,k,r,b=>by
  simp only[zQ,yC] at b;subst b;simp[gh]
 |a :: l,i+1,k,r,b=>by
  have j:=tQ l i k r (by simpa using b);have c:(i+1)*4+1=(i*4+1)+1+1+1+1:=by omega
  have d:(i+1)*4+2=(i*4+2)+1+1+1+1:=by omega
  have g:(i+1)*4+3=(i*4+3)+1+1+1+1:=by omega
  rw[List.set_cons_succ,yZ,yZ,<-j,c,d,g];simp[gh]
section
variable {w w':World}{F F':Nat->Prop}{fb:Nat}{L:iC}{p:List ah}{f:Fr}
theorem aZ.kv_form(b:aZ w F fb L p f):(L.kv=.slice none 0 0/\f.kd= [])\/∃kb c,L.kv=.slice (some ⟨kb,0,none⟩) f.kd.length c/\F kb/\(∃g,ae w kb 260 g)/\kb<w.heap.size:=by
 rcases b.kd.2 with⟨a,e⟩|⟨kb,c,cur,a,i,d,_⟩
 ·exact .inl ⟨a,yr e⟩
 ·exact .inr ⟨kb,c,a,b.fk kb (by rw[a];rfl),⟨cur,d⟩,(yu.1 d).1⟩
theorem aZ.kv_any(b:aZ w F fb L p f):∃A c,L.kv=.slice A f.kd.length c:=by
 rcases b.kv_form with⟨a,d⟩|⟨kb,c,a,_⟩
 ·exact⟨none,0,by rw[a,d];rfl⟩
 ·exact⟨_,c,a⟩
theorem aZ.kids_set{kb:Nat}{s:Array Value}{g:List cZ}(a:aZ w F fb L p f)(d:aa (λb=>b=kb) w w')(e:ae w kb 260 s)(m:w'.ownsRow 0 260 4 L.kv f.kd.length (g.flatMap gh))(l:g.length=f.kd.length):
 aZ w' F fb L p {f with kd:=g}:=by
 refine⟨a.ff,a.fr,a.fk,d.J a.J (λc=>ae.ne_ a.J e (by decide) c),a.fns.by_type d e (by decide) (by decide),d.J a.rg (λc=>ae.ne_ a.rg e (by decide) c),by rw[l];exact m,?_,a.rp,a.cap⟩;have:=a.wp
 show match f.waits with
  |none=>L.wp=.pointer none
  |some o=>∃q,F q/\L.wp=.pointer (some ⟨q,0,none⟩)/\ae w' q 106 (eR o).toArray
 split<;>rename_i c<;>rw[c] at this
 ·exact this
 ·obtain⟨q,j,k,i⟩:=this
  exact⟨q,j,k,d.J i (λc=>ae.ne_ i e (by decide) c)⟩
theorem C5(a:aZ w F fb L p f)(e:p≠[]):Calls Tryz.prog 92 #[.pointer (some ⟨fb,0,none⟩)] w λb w'=>b=.returned (.int .i64 (f.kd.length:Int))/\w=w':=by
 obtain⟨A,c,d⟩:=a.kv_any;have i:=a.J.I 8;simp[cY,d] at i;have g:=hD (mh a e);generalize (f.kd.length:Nat)=n at*;clear a e d;go_enter Tryz.func92,Tryz.ntmps92;go_wp2_with fail;refine g.O.mono ?_;rintro b w' ⟨rfl,rfl⟩;go_wp2_with fail;go_ret;exact⟨rfl,rfl⟩
theorem CO(i:Nat)(k:cZ)(x:aL)(aw:∀b,F b->b<w.heap.size)(G:aZ w F fb L p f)(a3:p≠[])(t:f.kd[i]?=some k)(a0:k.given=false)(a4:f.result=none)(b1:f.kd.length<=16):
 Calls Tryz.prog 91 #[.pointer (some ⟨fb,0,none⟩),.int .i64 ((i:Int)+1),eV x] w λa w'=>a=.returned (.int .i64 0)/\aZ w' F fb L p {f with kd:=f.kd.set i ⟨k.into,true,x⟩}/\aa F w w':=by
 have a1:=(gS t).1
 rcases G.kv_form with⟨_,av⟩|⟨kb,c,u,b0,⟨bb,a6⟩,_⟩
 ·rw[av] at a1
  simp at a1
 obtain⟨d,s⟩:=eX (w.alloc (.cells #[.int .i64 x.v,.int .i64 x.e] 35));have N:ac w d:=by rw[s];exact(aa.refl _ w).alloc _
 have E:ae d w.heap.size 35 #[.int .i64 x.v,.int .i64 x.e]:=by rw[s];exact bN
 have e:=G.kp N nG;have ai:=hD (mh e a3);have R:=e.J.I 8;have a8:=e.J.I 11;simp[cY,u,e.rp a4] at R a8;have y:=e.kd;have ad:=hD u;rw[u] at y;have j:=y.cells (g:=kb) rfl (i*4+1) (.bool false) (by rw[jL _ _ 1 k t (by omega)];simp[gh,a0]);have aE:¬(f.kd.length:Int)<(i:Int)+1:=by omega
 have b3:decide ((f.kd.length:Int)<(i:Int)+1)=false:=yd aE;have b2:¬(i:Int)+1<1:=by omega
 have b4:decide ((i:Int)+1<1)=false:=yd b2;have b9:(0:Int)<=(i:Int):=by omega
 have ba:(i:Int)<(f.kd.length:Int):=by omega
 have b5:IntKind.i64.wrap ((i:Int)+1-1)=(i:Int):=by rw[aU];unfold wrap64;omega
 have b6:wrap64 ((i:Int)+1-1)=(i:Int):=by unfold wrap64;omega
 have b7:IntKind.i64.wrap (i:Int)=(i:Int):=by rw[aU];unfold wrap64;omega
 have b8:wrap64 (i:Int)=(i:Int):=by unfold wrap64;omega
 rw[bg,yq] at j;obtain⟨g,K⟩:=eX w.heap.size;rw[<-K] at E;go_enter Tryz.func91,Tryz.ntmps91;unfold eV;have C:=hD e;have S:=hD E;have m:=hD N;have ab:=hD K;have q:=hD y;have l:=hD t;have D:=hD a6;have T:=hD s.symm;clear G e E N K y t a6 s a3 a4 b1 a0 u aw;go_upto_region 1 with fail;rw[T.O,<-ab.O];clear T;go_wp2_with fail;refine ai.O.mono ?_;rintro a w' ⟨rfl,rfl⟩;go_wp2_with fail;clear j a8
 have Z:Hd (∀W,aa (λb=>b=kb) d W->aa (λb=>b=kb) d W/\W.cell? ⟨fb,8,none⟩=some (.slice (some ⟨kb,0,none⟩) f.kd.length c)/\W.cell? ⟨g,0,none⟩=some (.int .i64 x.v)/\W.cell? ⟨g,1,none⟩=some (.int .i64 x.e)):=hD λW H=>by
  have a5:=m.O.J D.O nF;have a7:=H.J S.O (λa=>ae.ne_ S.O a5 (by decide) a);refine⟨H,?_,a7.I 0,a7.I 1⟩;rw[<-R];exact H.I (p:=⟨fb,8,none⟩) C.O.J.lt (λa=>ae.ne_ C.O.J a5 (by decide) a)
 have az:=Z.O d oR;have B:=m.O.J D.O nF;have j:=q.O.cells (g:=kb) rfl (i*4+1) _ (jL _ _ 1 k l.O (by omega));have V:=q.O.cells (g:=kb) rfl (i*4+2) _ (jL _ _ 2 k l.O (by omega));have X:=q.O.cells (g:=kb) rfl (i*4+3) _ (jL _ _ 3 k l.O (by omega));rw[bg,yq] at j V X;have am:=B.fz (i*4+1);have an:=B.fz (i*4+2);have ar:=B.fz (i*4+3);clear R B
 go_region_held3 (λw'=>aa (λb=>b=kb) d w'/\w'.cell? ⟨fb,8,none⟩=some (.slice (some ⟨kb,0,none⟩) f.kd.length c)/\w'.cell? ⟨g,0,none⟩=some (.int .i64 x.v)/\w'.cell? ⟨g,1,none⟩=some (.int .i64 x.e))
  (first|(refine Z.O _ ?_;repeat (first|with_reducible exact oR|with_reducible refine aa.drew ?_|with_reducible refine aD ?_))|fail) (fail)
 obtain⟨Q,z⟩:=eX ((((d.setCell ⟨kb,i*4+1,none⟩ (.bool true)).setCell ⟨kb,i*4+2,none⟩ (.int .i64 x.v)).setCell ⟨kb,i*4+3,none⟩ (.int .i64 x.e)).drew);rw[<-z];have P:aa (λb=>b=kb) d Q:=by rw[z];exact(aD (aD (af _ _ _ _))).drew
 have a2:Q.ownsRow 0 260 4 (.slice (some ⟨kb,0,none⟩) f.kd.length c) f.kd.length ((f.kd.set i ⟨k.into,true,x⟩).flatMap gh):=by
  rw[z,<-tQ f.kd i k x l.O];exact(((q.O.stored (i*4+1) (.bool true)).1.stored (i*4+2) (.int .i64 x.v)).1.stored (i*4+3) (.int .i64 x.e)).1
 have Y:aZ Q F fb L p {f with kd:=f.kd.set i ⟨k.into,true,x⟩}:=C.O.kids_set P (m.O.J D.O nF) (by rw[ad.O];exact a2) (by simp);have a9:=hD Y;have al:=hD P;clear j V X am an ar az z P a2 Y;go_wp2_with fail;go_ret;exact⟨rfl,a9.O,(m.O.mono λ_ a=>a.elim).trans (al.O.mono λb a=>by rw[a];exact b0)⟩
end
theorem ED:∃i,Tryz.prog.info? 260=some i/\i.zero=some (.agg #[.int .i64 0,.bool false,.int .i64 0,.int .i64 0])/\i.size=4/\i.bytes=32:=by
 have a:(Tryz.prog.info? 260).map (λi=>(i.zero,i.size,i.bytes))=some (some (.agg #[.int .i64 0,.bool false,.int .i64 0,.int .i64 0]),4,32):=by kernel_rfl
 cases hi:Tryz.prog.info? 260 with
 |none=>rw[hi] at a;cases a
 |some i=>
  rw[hi] at a;simp only[yU,yC,yP] at a;exact⟨i,rfl,a⟩
theorem mx{w:World}{base:Nat}{a:TypeId}{j n:Nat}{v:Value}{xs:List Value}(d:w.ownsRow base a j v (n+1) xs):∃b c,v=.slice (some ⟨b,0,none⟩) (n+1) c:=by
 rcases di d with⟨_,e⟩|⟨g,c,i,_⟩
 ·cases e
 ·exact⟨g,c,i⟩
theorem AY{n:Nat}(a:n<16):(n+1)*32<=140737488355328:=by omega
theorem EH{n:Nat}(a:n<16):n+1<=maxLen:=by unfold maxLen;omega
theorem qN{ops:Array Oper}{o:Oper}{a:Act}{W:World}{c:Act->World->Prop}{Q:Exit->Act->World->Prop}{g:Prop}{q:Nat}{cs:List Value}(y:o.guard=none)(s x:Operand)
 (B:o.op=.call {callee:=.builtin .append,args:=#[s,x],argTypes:=#[228,228]}) (v:Value) (D:a.eval s=v) (H:a.eval x=.slice (some ⟨q,0,none⟩) 1 1)
 (l:cs.length=4) (n:Nat) (xs:List Value) (C:W.ownsRow 0 260 4 v n xs) (d:ae W q 260 cs.toArray) (e:n<16) (k:∀u∈cs,u.oneCell'=true)
 (m:∀b w',w'.ownsRow 0 260 4 b (n+1) (xs++cs)->W.grownBy w' v.ownBlock->(b.ownBlock=v.ownBlock\/b.ownBlock=some W.heap.size)->c (a.put o.dst b) w'):
 if Region.wanted o (yielded ops a.tmps)=true then Oper.wp Tryz.prog o a W c Q else g:=by
 obtain⟨i,z,K,E,t⟩:=ED;refine gZ W y s x 228 B 0 260 i _ 4 32 Tryz.underlying228 z K E t rfl (by decide) v n xs D C W.heap.size (some ⟨q,0,none⟩) 1 1 cs H ⟨by rw[l],λ_=>⟨⟨q,0,none⟩,rfl,d.lt,λj u G=>?_⟩⟩ k (EH e) (AY e) (yx _) m;rw[bg,yq,d.I,zi];exact G
theorem aZ.appended{w w' j:World}{F F':Nat->Prop}{fb:Nat}{L:iC}{p:List ah}{f:Fr}{i:Value}{k:cZ}(d:aZ w F fb L p f)(g:aa (λb=>L.kv.ownBlock=some b) w w')(s:aa (λb=>b=fb) w' j)
 (v:w'.ownsRow 0 260 4 i (f.kd.length+1) (f.kd.flatMap gh++gh k)) (l:∀b,F b->F' b) (C:∀b,i.ownBlock=some b->F' b) (y:ae j fb 232 (cY {L with kv:=i} p {f with kd:=f.kd++ [k]})):
 aZ j F' fb {L with kv:=i} p {f with kd:=f.kd++ [k]}:=by
 have m:ae w' fb 232 (cY L p f):=g.J d.J (λa=>aA d.kd d.J (by decide) a)
 have B:cW w' F L.PA p:=by
  rcases d.kv_form with⟨e,_⟩|⟨kb,c,e,_,⟨E,D⟩,_⟩
  ·exact d.fns.kp g (λb _ a=>by rw[e] at a;cases a)
  ·refine d.fns.by_type (q:=kb) (g.mono λb a=>?_) D (by decide) (by decide)
   rw[e] at a;exact(yz a).symm
 refine⟨l _ d.ff,l _ d.fr,C,y,(B.by_type s m (by decide) (by decide)).mo l,?_,?_,?_,d.rp,d.cap⟩
 ·have:=g.J d.rg (λa=>aA d.kd d.rg (by decide) a)
  exact s.J this (λa=>ae.ne_ this m (by decide) a)
 ·have:=s.owns v (λb z a=>aA v m (by decide) (by rw[z,a]))
  show j.ownsRow 0 260 4 i (f.kd++ [k]).length ((f.kd++ [k]).flatMap gh);rw[yk,zL]
  simpa using this
 ·have:=d.wp
  show match f.waits with
   |none=>L.wp=.pointer none
   |some o=>∃q,F' q/\L.wp=.pointer (some ⟨q,0,none⟩)/\ae j q 106 (eR o).toArray
  split<;>rename_i a<;>rw[a] at this
  ·exact this
  ·obtain⟨q,e,x,t⟩:=this
   have u:=g.J t (λa=>aA d.kd t (by decide) a);exact⟨q,l _ e,x,s.J u (λa=>ae.ne_ u m (by decide) a)⟩
theorem nj{W8 W w':World}{c:Option Nat}(e:W.grownBy w' c)(d:ac W8 W):aa (λb=>c=some b) W8 w':=aa.grown (d.mono λ_ a=>a.elim) e (λk a=>.inl a)
theorem rV{W8 W:World}{v d:Value}(g:d.ownBlock=v.ownBlock\/d.ownBlock=some W.heap.size)(e:ac W8 W)(b:Nat)(c:d.ownBlock=some b):v.ownBlock=some b\/W8.heap.size<=b:=by
 rcases g with a|a
 ·exact .inl (by rw[<-a];exact c)
 ·rw[a] at c
  have:=e.size;have i:=yz c;exact .inr (by omega)
theorem rt{w:World}{base:Nat}{d:TypeId}{i n b:Nat}{v:Value}{xs:List Value}(e:w.ownsRow base d i v n xs)(a:v.ownBlock=some b):b<w.heap.size:=by
 rcases di e with⟨rfl,_⟩|⟨g,c,rfl,_,_,_,j⟩
 ·cases a
 ·have:g=b:=yz a
  omega
def ms(t:aj)(A:Option Addr)(c:Nat):Array Value:=#[.int .u8 2,.string (sB t.M),.int .i64 t.fn,.slice A t.args.length c,.int .i64 (t.fuel:Int),.int .i64 0,.int .i64 0]
end
end Go.Proofs.YtmdocplknceilaaGreat
