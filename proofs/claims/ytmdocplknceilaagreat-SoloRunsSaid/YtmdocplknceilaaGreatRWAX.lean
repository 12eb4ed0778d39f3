import Derived.Test.YtmdocplknceilaaGreatRWAW
set_option linter.all false
set_option maxRecDepth 100000
set_option maxHeartbeats 8000000
namespace Go.Proofs.YtmdocplknceilaaGreat
section
open Go.RowKit Go.Maps
section
variable {w w':World}{rb:Nat}{L:gT}{p:List ah}{t:aj}{s:ep}
theorem cu.kp{S:Nat->Prop}(c:cu w rb L p t s)(e:aa S w w')(f:¬S rb)(g:¬S L.gb)(i:∀b,L.iv.ownBlock=some b->¬S b):cu w' rb L p t s:=
 ⟨e.J c.J f,e.J c.rg g,e.owns c.into i,c.cap⟩
theorem cu.U(c:cu w rb L p t s)(e:ac w w'):cu w' rb L p t s:=c.kp e nF nF nG
theorem cu.td{s':ep}(c:cu w rb L p t s)(g:aa (λb=>b=rb) w w')(j:ae w' rb 112 (cT L p.length t s'))(f:s'.rg=s.rg)(i:s'.into=s.into):cu w' rb L p t s':=by
 refine⟨j,?_,?_,by rw[f];exact c.cap⟩
 ·rw[f];exact g.J c.rg (λe=>ae.ne_ c.rg c.J (by decide) e)
 ·rw[i];exact g.owns c.into (λk l e=>aA c.into c.J (by decide) (by rw[l,e]))
theorem cu.at_set(c:cu w rb L p t s)(a:Int):cu (w.setCell ⟨rb,6,none⟩ (.int .i64 a)) rb L p t {s with at_:=a}:=
 c.td (af _ _ _ _) (c.J.s_ 6 _) rfl rfl
theorem cu.left_set(c:cu w rb L p t s)(a:Nat):cu (w.setCell ⟨rb,7,none⟩ (.int .i64 (a:Int))) rb L p t {s with left:=a}:=
 c.td (af _ _ _ _) (c.J.s_ 7 _) rfl rfl
theorem cu.kids_set(c:cu w rb L p t s)(a:Nat):cu (w.setCell ⟨rb,8,none⟩ (.int .i64 (a:Int))) rb L p t {s with kd:=a}:=
 c.td (af _ _ _ _) (c.J.s_ 8 _) rfl rfl
theorem cu.first_set(c:cu w rb L p t s)(a:Nat):cu (w.setCell ⟨rb,9,none⟩ (.int .i64 (a:Int))) rb L p t {s with first:=a}:=
 c.td (af _ _ _ _) (c.J.s_ 9 _) rfl rfl
theorem cu.reg_set(c:cu w rb L p t s)(k:Nat)(x:Int):cu (w.setCell ⟨L.gb,k,none⟩ (.int .i64 x)) rb L p t {s with rg:=s.rg.set k x}:=by
 have o:=af w L.gb k (.int .i64 x);refine⟨?_,?_,o.owns c.into (λb f e=>aA c.into c.rg (by decide) (by rw[f,e])),by simpa using c.cap⟩
 ·have:=o.J c.J (λe=>ae.ne_ c.rg c.J (by decide) e.symm)
  unfold cT at this ⊢;simp only[yI];exact this
 ·have:=c.rg.s_ k (.int .i64 x)
  rw[pX] at this;exact this
theorem cu.reg(c:cu w rb L p t s){k:Nat}(e:k<s.rg.length):w.cell? ⟨L.gb,k,none⟩=some (.int .i64 (s.rg.getD k 0)):=by
 rw[c.rg.I];simp[yc,e]
end
def lJ(w w':World)(rb:Nat)(L:gT)(p:List ah)(t:aj)(s:ep)(o:bK)(e:Ending):Prop:=
 (match dF o s.rg (s.at_+1) with
  |none=>e=.returned (.int .i64 131)/\cu w' rb L p t {s with at_:=s.at_+1}
  |some x=>e=.returned (.int .i64 0)/\cu w' rb L p t {s with rg:=x.1,at_:=x.2})/\aa (λb=>b=rb\/b=L.gb) w w'
theorem jW{x:Int}(c:0<=x)(e:x<=64):wrap64 (x+1)=x+1:=by unfold wrap64;omega
section
variable {w:World}{rb:Nat}{L:gT}{p:List ah}{t:aj}{s:ep}(d a b:Nat)(n:Int)
theorem E0(H:cu w rb L p t s)(v:0<=s.at_)(x:s.at_<=64)(f:d<s.rg.length):Calls Tryz.prog 81 #[.pointer (some ⟨rb,0,none⟩),cR ⟨1,d,a,b,n⟩] w λc w'=>lJ w w' rb L p t s ⟨1,d,a,b,n⟩ c:=by
 unfold cR;have C:=hD f;clear f;obtain⟨i,l⟩:=eX (w.alloc (.cells #[.int .u8 1,.int .i64 (d:Int),.int .i64 (a:Int),.int .i64 (b:Int),.int .i64 n] 106));have z:ac w i:=by rw[l];exact(aa.refl _ w).alloc _
 obtain⟨g,y⟩:=eX w.heap.size;have F:ae i g 106 #[.int .u8 1,.int .i64 (d:Int),.int .i64 (a:Int),.int .i64 (b:Int),.int .i64 n]:=by rw[l,y];exact bN
 have j:=H.U z;have G:=j.J.I 6;have T:=j.J.fz 6;simp[cT] at G;have K:=jW v x;have V:=(aU _).trans K;have W:=hD (aI v x);have A:=hD j;have B:=hD F;have P:=hD z;have D:=hD l.symm;have N:=hD y;clear H v x l z y F j;go_enter Tryz.func81,Tryz.ntmps81;go_upto_region 1 with fail;rw[D.O,<-N.O];clear D;go_upto_region 2 with fail;obtain⟨E,u⟩:=eX (i.setCell ⟨rb,6,none⟩ (.int .i64 (s.at_+1)));rw[<-u];have e:=A.O.at_set (s.at_+1);have o:=af i rb 6 (.int .i64 (s.at_+1));rw[<-u] at e o;have r:=o.J B.O (λc=>ae.ne_ B.O A.O.J (by decide) c);have Q:Hd (aa (λb=>b=rb\/b=L.gb) w E):=hD ((P.O.mono λ_ c=>c.elim).trans (o.mono λb c=>.inl c));have q:=hD e;have X:=hD r;obtain⟨a4,a5,a6,a7,a8⟩:=r.gE5;obtain⟨rl,m⟩:=eX s.rg.length;have R:=e.J.I 5;simp[cT,<-m] at R;have a0:=e.J.fz 6;have S:=e.J.I 6;simp[cT] at S;have Y:=hD m;clear u e o r G T K V;have f:=C.O;rw[<-m] at f;obtain⟨a2,a3⟩:=ca f;have Z:=q.O.reg C.O;have a1:=q.O.rg.fz d;generalize s.rg.getD d 0=a9 at*;clear m;go_wp2_with fail
 go_still_tail 8,(by kernel_rfl)
 change wpList _ _ _ _ _ E.drew;go_wp2_with fail;go_ret;refine⟨⟨rfl,?_⟩,(Q.O.trans ((af _ _ _ _).mono λb c=>.inr c)).drew⟩;exact(q.O.reg_set d n).U oR.drew
theorem FH(D:cu w rb L p t s)(q:0<=s.at_)(r:s.at_<=64):Calls Tryz.prog 81 #[.pointer (some ⟨rb,0,none⟩),cR ⟨10,d,a,b,n⟩] w λc w'=>lJ w w' rb L p t s ⟨10,d,a,b,n⟩ c:=by
 unfold cR;obtain⟨f,j⟩:=eX (w.alloc (.cells #[.int .u8 10,.int .i64 (d:Int),.int .i64 (a:Int),.int .i64 (b:Int),.int .i64 n] 106));have x:ac w f:=by rw[j];exact(aa.refl _ w).alloc _
 obtain⟨g,u⟩:=eX w.heap.size;have B:ae f g 106 #[.int .u8 10,.int .i64 (d:Int),.int .i64 (a:Int),.int .i64 (b:Int),.int .i64 n]:=by rw[j,u];exact bN
 have i:=D.U x;have C:=i.J.I 6;have R:=i.J.fz 6;simp[cT] at C;have E:=jW q r;have S:=(aU _).trans E;have T:=hD (aI q r);have y:=hD i;have z:=hD B;have H:=hD x;have A:=hD j.symm;have G:=hD u;clear D q r j x u B i;go_enter Tryz.func81,Tryz.ntmps81;go_upto_region 1 with fail;rw[A.O,<-G.O];clear A;go_upto_region 2 with fail;obtain⟨N,o⟩:=eX (f.setCell ⟨rb,6,none⟩ (.int .i64 (s.at_+1)));rw[<-o];have e:=y.O.at_set (s.at_+1);have l:=af f rb 6 (.int .i64 (s.at_+1));rw[<-o] at e l;have m:=l.J z.O (λc=>ae.ne_ z.O y.O.J (by decide) c);have K:Hd (aa (λb=>b=rb\/b=L.gb) w N):=hD ((H.O.mono λ_ c=>c.elim).trans (l.mono λb c=>.inl c));have F:=hD e;have V:=hD m;obtain⟨Y,Z,a0,a1,a2⟩:=m.gE5;obtain⟨rl,v⟩:=eX s.rg.length;have P:=e.J.I 5;simp[cT,<-v] at P;have X:=e.J.fz 6;have Q:=e.J.I 6;simp[cT] at Q;have W:=hD v;clear o e l m C R E S;clear v;go_wp2_with fail;go_ret;refine⟨⟨rfl,?_⟩,K.O.trans ((af _ _ _ _).mono λb c=>.inl c)⟩;exact F.O.at_set n
theorem FI(X:cu w rb L p t s)(B:0<=s.at_)(C:s.at_<=64)(Y:a<s.rg.length):Calls Tryz.prog 81 #[.pointer (some ⟨rb,0,none⟩),cR ⟨11,d,a,b,n⟩] w λc w'=>lJ w w' rb L p t s ⟨11,d,a,b,n⟩ c:=by
 unfold cR;have P:=hD Y;clear Y;obtain⟨f,l⟩:=eX (w.alloc (.cells #[.int .u8 11,.int .i64 (d:Int),.int .i64 (a:Int),.int .i64 (b:Int),.int .i64 n] 106));have G:ac w f:=by rw[l];exact(aa.refl _ w).alloc _
 obtain⟨g,D⟩:=eX w.heap.size;have T:ae f g 106 #[.int .u8 11,.int .i64 (d:Int),.int .i64 (a:Int),.int .i64 (b:Int),.int .i64 n]:=by rw[l,D];exact bN
 have i:=X.U G;have W:=i.J.I 6;have ab:=i.J.fz 6;simp[cT] at W;have a0:=jW B C;have ad:=(aU _).trans a0;have av:=hD (aI B C);have K:=hD i;have N:=hD T;have a4:=hD G;have Q:=hD l.symm;have a3:=hD D;clear X B C l G D T i;go_enter Tryz.func81,Tryz.ntmps81;go_upto_region 1 with fail;rw[Q.O,<-a3.O];clear Q;go_upto_region 2 with fail;obtain⟨v,z⟩:=eX (f.setCell ⟨rb,6,none⟩ (.int .i64 (s.at_+1)));rw[<-z];have e:=K.O.at_set (s.at_+1);have o:=af f rb 6 (.int .i64 (s.at_+1));rw[<-z] at e o;have x:=o.J N.O (λc=>ae.ne_ N.O K.O.J (by decide) c);have S:Hd (aa (λb=>b=rb\/b=L.gb) w v):=hD ((a4.O.mono λ_ c=>c.elim).trans (o.mono λb c=>.inl c));have r:=hD e;have a2:=hD x;obtain⟨ai,al,am,an,ar⟩:=x.gE5;obtain⟨rl,m⟩:=eX s.rg.length;have a7:=e.J.I 5;simp[cT,<-m] at a7;have a9:=e.J.fz 6;have y:=e.J.I 6;simp[cT] at y;have aw:=hD m;clear z e o x W ab a0 ad;have Z:=P.O;rw[<-m] at Z;obtain⟨aE,b0⟩:=ca Z;have a8:=r.O.reg P.O;obtain⟨H,F⟩:=eX (s.rg.getD a 0);rw[<-F] at a8;have R:=hD F;clear m F
 by_cases E:H=0
 ·subst E
  have u:Hd (dF ⟨11,d,a,b,n⟩ s.rg (s.at_+1)=some (s.rg,s.at_+1)):=hD (by
   show some (s.rg,if ct s.rg (a:Int)≠0 then n else s.at_+1)=_;have:ct s.rg (a:Int)=0:=by unfold ct;rw[yo];exact R.O.symm
   rw[this,yb (by simp)])
  go_wp2_with fail
  go_quiet (fail)
  go_wp2_with fail;go_ret;unfold lJ;rw[u.O];exact⟨⟨rfl,r.O.U (oR.drewN _)⟩,S.O.drewN _⟩
 ·have u:Hd (dF ⟨11,d,a,b,n⟩ s.rg (s.at_+1)=some (s.rg,n)):=hD (by
   show some (s.rg,if ct s.rg (a:Int)≠0 then n else s.at_+1)=_;have:ct s.rg (a:Int)=H:=by unfold ct;rw[yo];exact R.O.symm
   rw[this,yf E])
  have az:(H==0)=false:=bF E;go_wp2_with fail
  go_quiet (fail)
  obtain⟨a6,A⟩:=eX (v.drewN nq);rw[<-A];have q:ac v a6:=by rw[A];exact oR.drewN nq
  have j:=r.O.U q;have V:=q.J a2.O nF;have a5:=hD q;obtain⟨ai,al,am,an,ar⟩:=V.gE5;have a9:=j.J.fz 6;have y:=j.J.I 6;simp[cT] at y;have a1:=hD j;clear A q j V;go_wp2_with fail;go_ret;unfold lJ;rw[u.O];exact⟨⟨rfl,a1.O.at_set n⟩,(S.O.trans (a5.O.mono λ_ c=>c.elim)).trans ((af _ _ _ _).mono λb c=>.inl c)⟩
theorem Dx(aw:cu w rb L p t s)(a1:0<=s.at_)(a2:s.at_<=64)(P:a<s.rg.length)(aE:d<s.rg.length)(b1:∀x∈s.rg,ju x):Calls Tryz.prog 81 #[.pointer (some ⟨rb,0,none⟩),cR ⟨2,d,a,b,n⟩] w λc w'=>lJ w w' rb L p t s ⟨2,d,a,b,n⟩ c:=by
 unfold cR;have v:=hD (aI P aE);have T:Hd (ju (s.rg.getD a 0)):=hD (by rw[yc,gG P];exact b1 _ (yN P));clear P aE b1;obtain⟨F,N⟩:=eX (w.alloc (.cells #[.int .u8 2,.int .i64 (d:Int),.int .i64 (a:Int),.int .i64 (b:Int),.int .i64 n] 106));have a6:ac w F:=by rw[N];exact(aa.refl _ w).alloc _
 obtain⟨g,a4⟩:=eX w.heap.size;have am:ae F g 106 #[.int .u8 2,.int .i64 (d:Int),.int .i64 (a:Int),.int .i64 (b:Int),.int .i64 n]:=by rw[N,a4];exact bN
 have K:=aw.U a6;have ar:=K.J.I 6;have ba:=K.J.fz 6;simp[cT] at ar;have b2:=jW a1 a2;have bb:=(aU _).trans b2;have bn:=hD (aI a1 a2);have a8:=hD K;have ab:=hD am;have b7:=hD a6;have ad:=hD N.symm;have b6:=hD a4;clear aw a1 a2 N a6 a4 am K;go_enter Tryz.func81,Tryz.ntmps81;go_upto_region 1 with fail;rw[ad.O,<-b6.O];clear ad;go_upto_region 2 with fail;obtain⟨al,a0⟩:=eX (F.setCell ⟨rb,6,none⟩ (.int .i64 (s.at_+1)));rw[<-a0];have q:=a8.O.at_set (s.at_+1);have R:=af F rb 6 (.int .i64 (s.at_+1));rw[<-a0] at q R;have Y:=R.J ab.O (λc=>ae.ne_ ab.O a8.O.J (by decide) c);have b8:Hd (aa (λb=>b=rb\/b=L.gb) w al):=hD ((b7.O.mono λ_ c=>c.elim).trans (R.mono λb c=>.inl c));have b3:=hD q;have b5:=hD Y;obtain⟨bc,a7,bf,bk,bm⟩:=Y.gE5;obtain⟨rl,Q⟩:=eX s.rg.length;have H:=q.J.I 5;simp[cT,<-Q] at H;have b9:=q.J.fz 6;have av:=q.J.I 6;simp[cT] at av;have E:=hD Q;clear a0 q R Y ar ba b2 bb;have a3:=v.O.1;rw[<-Q] at a3;obtain⟨bq,br⟩:=ca a3;obtain⟨j,a5⟩:=eX (s.rg.getD a 0);rw[<-a5] at T;have X:=hD a5;clear Q a5;go_upto_region 6 with fail;obtain⟨f,z⟩:=eX al;rw[<-z];have S:Hd (ae f g 106 #[.int .u8 2,.int .i64 (d:Int),.int .i64 (a:Int),.int .i64 (b:Int),.int .i64 n]):=hD (by rw[z];exact b5.O);have D:Hd (cu f rb L p t {s with at_:=s.at_+1}):=hD (by rw[z];exact b3.O);have ai:Hd (aa (λb=>b=rb\/b=L.gb) w f):=hD (by rw[z];exact b8.O);obtain⟨m,az⟩:=eX (0:Int);rw[<-az]
 have a9:Hd (dF ⟨2,d,a,b,n⟩ s.rg (s.at_+1)=(du 2 j m).map λx=>(s.rg.set d x,s.at_+1)):=hD (by
  rw[X.O];rfl)
 clear z az bc a7 bf bk bm H b9 av a3
 cases hv:du 2 j m with
 |none=>
  have u:Hd (∀W,Calls Tryz.prog 135 #[.int .u8 2,.int .i64 j,.int .i64 m] W λc w'=>c=.returned (.tuple #[.int .i64 0,.bool false])/\ac W w'):=hD λW=>by have:=my 2 j m W (by first|omega|(have:=HK.O;omega)) T.O;rw[hv] at this;exact this
  have e:Hd (∀W,ac f W->ac f W/\W.cell? ⟨g,0,none⟩=some (.int .u8 2)/\W.cell? ⟨rb,5,none⟩=some (.slice (some ⟨L.gb,0,none⟩) rl L.rc)/\W.cell? ⟨g,2,none⟩=some (.int .i64 (a:Int))/\W.cell? ⟨L.gb,a,none⟩=some (.int .i64 j)):=hD λW l=>by
   have r:=(l.J S.O nF)
   have A:=(D.O.U l)
   have B:=A.reg v.O.1;have C:=A.J.I 5;simp[cT,<-E.O] at C;rw[<-X.O] at B;exact⟨l,r.I 0,C,r.I 2,B⟩
  have V:=hD hv;have Z:=e.O f oR;clear hv
  go_region_held3 (λw'=>ac f w'/\w'.cell? ⟨g,0,none⟩=some (.int .u8 2)/\w'.cell? ⟨rb,5,none⟩=some (.slice (some ⟨L.gb,0,none⟩) rl L.rc)/\w'.cell? ⟨g,2,none⟩=some (.int .i64 (a:Int))/\w'.cell? ⟨L.gb,a,none⟩=some (.int .i64 j))
   (with_reducible first|exact e.O _ oR|exact e.O _ (aa.drew oR)|exact e.O _ i|exact e.O _ (aa.trans (aa.drew oR) i)|exact e.O _ (aa.drew i)|exact e.O _ (aa.drew (aa.trans (aa.drew oR) i))|fail)
   (first|(go_at_call 135;refine(u.O _).mono ?_;rintro c G ⟨rfl,i⟩)|fail)
  have o:Hd (ac f G):=hD (yt ‹_›);clear Z i u e;go_wp2_with fail;go_ret;unfold lJ;rw[a9.O,V.O];exact⟨⟨rfl,D.O.U o.O⟩,ai.O.trans (o.O.mono λ_ c=>c.elim)⟩
 |some x=>
  have u:Hd (∀W,Calls Tryz.prog 135 #[.int .u8 2,.int .i64 j,.int .i64 m] W λc w'=>c=.returned (.tuple #[.int .i64 x,.bool true])/\ac W w'):=hD λW=>by have:=my 2 j m W (by first|omega|(have:=HK.O;omega)) T.O;rw[hv] at this;exact this
  have e:Hd (∀W,ac f W->ac f W/\W.cell? ⟨g,0,none⟩=some (.int .u8 2)/\W.cell? ⟨rb,5,none⟩=some (.slice (some ⟨L.gb,0,none⟩) rl L.rc)/\W.cell? ⟨g,2,none⟩=some (.int .i64 (a:Int))/\W.cell? ⟨L.gb,a,none⟩=some (.int .i64 j)):=hD λW l=>by
   have r:=(l.J S.O nF)
   have A:=(D.O.U l)
   have B:=A.reg v.O.1;have C:=A.J.I 5;simp[cT,<-E.O] at C;rw[<-X.O] at B;exact⟨l,r.I 0,C,r.I 2,B⟩
  have V:=hD hv;have Z:=e.O f oR;clear hv
  go_region_held3 (λw'=>ac f w'/\w'.cell? ⟨g,0,none⟩=some (.int .u8 2)/\w'.cell? ⟨rb,5,none⟩=some (.slice (some ⟨L.gb,0,none⟩) rl L.rc)/\w'.cell? ⟨g,2,none⟩=some (.int .i64 (a:Int))/\w'.cell? ⟨L.gb,a,none⟩=some (.int .i64 j))
   (with_reducible first|exact e.O _ oR|exact e.O _ (aa.drew oR)|exact e.O _ i|exact e.O _ (aa.trans (aa.drew oR) i)|exact e.O _ (aa.drew i)|exact e.O _ (aa.drew (aa.trans (aa.drew oR) i))|fail)
   (first|(go_at_call 135;refine(u.O _).mono ?_;rintro c G ⟨rfl,i⟩)|fail)
  have o:Hd (ac f G):=hD (yt ‹_›);clear Z i u e;have y:=D.O.U o.O;have an:=o.O.J S.O nF;have H:=y.J.I 5;simp[cT,<-E.O] at H;have a7:=an.I 1;simp at a7;have b0:=v.O.2;rw[<-E.O] at b0;obtain⟨bt,bv⟩:=ca b0;have bo:=y.reg v.O.2;have bp:=y.rg.fz d;generalize s.rg.getD d 0=r at*;have b4:=hD y;clear y an;go_wp2_with fail
  go_still_tail 7,(by kernel_rfl)
  change wpList _ _ _ _ _ G.drew;go_wp2_with fail;go_ret;unfold lJ;rw[a9.O,V.O];exact⟨⟨rfl,(b4.O.reg_set d x).U oR.drew⟩,((ai.O.trans (o.O.mono λ_ c=>c.elim)).trans ((af _ _ _ _).mono λb c=>.inr c)).drew⟩
theorem Dw(k:Int)(b9:3<=k/\k<=9)(b4:cu w rb L p t s)(a5:0<=s.at_)(a6:s.at_<=64)(P:a<s.rg.length)(b5:b<s.rg.length)(b6:d<s.rg.length)(b8:∀x∈s.rg,ju x):Calls Tryz.prog 81 #[.pointer (some ⟨rb,0,none⟩),cR ⟨k,d,a,b,n⟩] w λc w'=>lJ w w' rb L p t s ⟨k,d,a,b,n⟩ c:=by
 unfold cR;have y:=hD (aI P b6);have ar:=hD b5;have X:Hd (ju (s.rg.getD a 0)):=hD (by rw[yc,gG P];exact b8 _ (yN P));have l:=hD b9;clear P b6 b8 b5 b9;obtain⟨F,N⟩:=eX (w.alloc (.cells #[.int .u8 k,.int .i64 (d:Int),.int .i64 (a:Int),.int .i64 (b:Int),.int .i64 n] 106));have ab:ac w F:=by rw[N];exact(aa.refl _ w).alloc _
 obtain⟨g,a9⟩:=eX w.heap.size;have aE:ae F g 106 #[.int .u8 k,.int .i64 (d:Int),.int .i64 (a:Int),.int .i64 (b:Int),.int .i64 n]:=by rw[N,a9];exact bN
 have K:=b4.U ab;have b1:=K.J.I 6;have bo:=K.J.fz 6;simp[cT] at b1;have ba:=jW a5 a6;have bp:=(aU _).trans ba;have bx:=hD (aI a5 a6);have ai:=hD K;have an:=hD aE;have bk:=hD ab;have av:=hD N.symm;have bf:=hD a9;clear b4 a5 a6 N ab a9 aE K;go_enter Tryz.func81,Tryz.ntmps81;go_upto_region 1 with fail;rw[av.O,<-bf.O];clear av;go_upto_region 2 with fail;obtain⟨Z,a3⟩:=eX (F.setCell ⟨rb,6,none⟩ (.int .i64 (s.at_+1)));rw[<-a3];have r:=ai.O.at_set (s.at_+1);have S:=af F rb 6 (.int .i64 (s.at_+1));rw[<-a3] at r S;have a0:=S.J an.O (λc=>ae.ne_ an.O ai.O.J (by decide) c);have bm:Hd (aa (λb=>b=rb\/b=L.gb) w Z):=hD ((bk.O.mono λ_ c=>c.elim).trans (S.mono λb c=>.inl c));have al:=hD r;have bc:=hD a0;obtain⟨bq,ad,br,bt,bv⟩:=a0.gE5;obtain⟨rl,Q⟩:=eX s.rg.length;have H:=r.J.I 5;simp[cT,<-Q] at H;have bn:=r.J.fz 6;have b2:=r.J.I 6;simp[cT] at b2;have E:=hD Q;clear a3 r S a0 b1 bo ba bp;have a7:=y.O.1;have a8:=ar.O;rw[<-Q] at a7 a8;obtain⟨c1,c2⟩:=ca a7;obtain⟨c3,c4⟩:=ca a8;obtain⟨j,R⟩:=eX (s.rg.getD a 0);obtain⟨o,a1⟩:=eX (s.rg.getD b 0);have b3:=al.O.reg ar.O;rw[<-a1] at b3;rw[<-R] at X;have aw:=hD R;have c5:(k==1)=false:=bF (by have:=l.O;omega);have c6:(k==10)=false:=bF (by have:=l.O;omega);have c7:(k==11)=false:=bF (by have:=l.O;omega);have c8:(k==2)=false:=bF (by have:=l.O;omega)
 have am:Hd (dF ⟨k,d,a,b,n⟩ s.rg (s.at_+1)=(du k j o).map λx=>(s.rg.set d x,s.at_+1)):=hD (by
  have:=l.O;unfold dF;simp only;rw[yb (by omega),yb (by omega),yb (by omega),R,a1];unfold ct jq;simp only[yo]
  cases du k (s.rg.getD a 0) (s.rg.getD b 0)<;>rfl)
 clear Q R a1;go_upto_region 5 with fail;go_wp2_with fail
 go_quiet (fail)
 obtain⟨f,a4⟩:=eX (Z.drewN nq);rw[<-a4];have T:ac Z f:=by rw[a4];exact oR.drewN nq
 have V:=hD (T.J bc.O nF);have D:=hD (al.O.U T);have az:Hd (aa (λb=>b=rb\/b=L.gb) w f):=hD (bm.O.trans (T.mono λ_ c=>c.elim));clear a4 T bq ad br bt bv H bn b2 a7 a8 b3;go_upto_region 6 with fail
 cases hv:du k j o with
 |none=>
  have v:Hd (∀W,Calls Tryz.prog 135 #[.int .u8 k,.int .i64 j,.int .i64 o] W λc w'=>c=.returned (.tuple #[.int .i64 0,.bool false])/\ac W w'):=hD λW=>by have:=my k j o W (by first|omega|(have:=l.O;omega)) X.O;rw[hv] at this;exact this
  have e:Hd (∀W,ac f W->ac f W/\W.cell? ⟨g,0,none⟩=some (.int .u8 k)/\W.cell? ⟨rb,5,none⟩=some (.slice (some ⟨L.gb,0,none⟩) rl L.rc)/\W.cell? ⟨g,2,none⟩=some (.int .i64 (a:Int))/\W.cell? ⟨L.gb,a,none⟩=some (.int .i64 j)):=hD λW m=>by
   have u:=(m.J V.O nF)
   have A:=(D.O.U m)
   have B:=A.reg y.O.1;have C:=A.J.I 5;simp[cT,<-E.O] at C;rw[<-aw.O] at B;exact⟨m,u.I 0,C,u.I 2,B⟩
  have Y:=hD hv;have a2:=e.O f oR;clear hv
  go_region_held3 (λw'=>ac f w'/\w'.cell? ⟨g,0,none⟩=some (.int .u8 k)/\w'.cell? ⟨rb,5,none⟩=some (.slice (some ⟨L.gb,0,none⟩) rl L.rc)/\w'.cell? ⟨g,2,none⟩=some (.int .i64 (a:Int))/\w'.cell? ⟨L.gb,a,none⟩=some (.int .i64 j))
   (with_reducible first|exact e.O _ oR|exact e.O _ (aa.drew oR)|exact e.O _ i|exact e.O _ (aa.trans (aa.drew oR) i)|exact e.O _ (aa.drew i)|exact e.O _ (aa.drew (aa.trans (aa.drew oR) i))|fail)
   (first|(go_at_call 135;refine(v.O _).mono ?_;rintro c G ⟨rfl,i⟩)|fail)
  have q:Hd (ac f G):=hD (yt ‹_›);clear a2 i v e;go_wp2_with fail;go_ret;unfold lJ;rw[am.O,Y.O];exact⟨⟨rfl,D.O.U q.O⟩,az.O.trans (q.O.mono λ_ c=>c.elim)⟩
 |some x=>
  have v:Hd (∀W,Calls Tryz.prog 135 #[.int .u8 k,.int .i64 j,.int .i64 o] W λc w'=>c=.returned (.tuple #[.int .i64 x,.bool true])/\ac W w'):=hD λW=>by have:=my k j o W (by first|omega|(have:=l.O;omega)) X.O;rw[hv] at this;exact this
  have e:Hd (∀W,ac f W->ac f W/\W.cell? ⟨g,0,none⟩=some (.int .u8 k)/\W.cell? ⟨rb,5,none⟩=some (.slice (some ⟨L.gb,0,none⟩) rl L.rc)/\W.cell? ⟨g,2,none⟩=some (.int .i64 (a:Int))/\W.cell? ⟨L.gb,a,none⟩=some (.int .i64 j)):=hD λW m=>by
   have u:=(m.J V.O nF)
   have A:=(D.O.U m)
   have B:=A.reg y.O.1;have C:=A.J.I 5;simp[cT,<-E.O] at C;rw[<-aw.O] at B;exact⟨m,u.I 0,C,u.I 2,B⟩
  have Y:=hD hv;have a2:=e.O f oR;clear hv
  go_region_held3 (λw'=>ac f w'/\w'.cell? ⟨g,0,none⟩=some (.int .u8 k)/\w'.cell? ⟨rb,5,none⟩=some (.slice (some ⟨L.gb,0,none⟩) rl L.rc)/\w'.cell? ⟨g,2,none⟩=some (.int .i64 (a:Int))/\w'.cell? ⟨L.gb,a,none⟩=some (.int .i64 j))
   (with_reducible first|exact e.O _ oR|exact e.O _ (aa.drew oR)|exact e.O _ i|exact e.O _ (aa.trans (aa.drew oR) i)|exact e.O _ (aa.drew i)|exact e.O _ (aa.drew (aa.trans (aa.drew oR) i))|fail)
   (first|(go_at_call 135;refine(v.O _).mono ?_;rintro c G ⟨rfl,i⟩)|fail)
  have q:Hd (ac f G):=hD (yt ‹_›);clear a2 i v e;have z:=D.O.U q.O;have b0:=q.O.J V.O nF;have H:=z.J.I 5;simp[cT,<-E.O] at H;have ad:=b0.I 1;simp at ad;have b7:=y.O.2;rw[<-E.O] at b7;obtain⟨c9,cb⟩:=ca b7;have bz:=z.reg y.O.2;have c0:=z.rg.fz d;generalize s.rg.getD d 0=u at*;have bb:=hD z;clear z b0;go_wp2_with fail
  go_still_tail 7,(by kernel_rfl)
  change wpList _ _ _ _ _ G.drew;go_wp2_with fail;go_ret;unfold lJ;rw[am.O,Y.O];exact⟨⟨rfl,(bb.O.reg_set d x).U oR.drew⟩,((az.O.trans (q.O.mono λ_ c=>c.elim)).trans ((af _ _ _ _).mono λb c=>.inr c)).drew⟩
end
theorem BY{w:World}{rb:Nat}{L:gT}{p:List ah}{t:aj}{s:ep}{x:ah}(o:bK)(A:tv p x o)(F:(s.rg.length:Int)=x.rg)(E:o.k<=11)(e:cu w rb L p t s)(f:0<=s.at_)(g:s.at_<=64)(l:∀x∈s.rg,ju x):
 Calls Tryz.prog 81 #[.pointer (some ⟨rb,0,none⟩),cR o] w λr w'=>lJ w w' rb L p t s o r:=by
 obtain⟨k,d,a,b,n⟩:=o;obtain⟨G,D,B,C,H,j,i,q,_,_,_,_,_,_⟩:=A;simp only at*;obtain⟨d,rfl⟩ :∃c:Nat,d=c:=⟨d.toNat,by omega⟩
 obtain⟨a,rfl⟩ :∃c:Nat,a=c:=⟨a.toNat,by omega⟩
 obtain⟨b,rfl⟩ :∃c:Nat,b=c:=⟨b.toNat,by omega⟩
 by_cases u:k=1
 ·subst u
  exact E0 d a b n e f g (by have:=j (.inl (by decide));omega)
 by_cases z:k=2
 ·subst z
  exact Dx d a b n e f g (by have:=i (.inl (by decide));omega) (by have:=j (.inl (by decide));omega) l
 by_cases v:k=10
 ·subst v
  exact FH d a b n e f g
 by_cases y:k=11
 ·subst y
  exact FI d a b n e f g (by have:=i (.inr (.inl rfl));omega)
 have m:3<=k/\k<=9:=by omega
 exact Dw d a b n k m e f g (by have:=i (.inl (by omega));omega) (by have:=q m;omega) (by have:=j (.inl (by omega));omega) l
def ko(k:Int):Bool:=k !=12&&(k !=13&&k !=14)
theorem BG(k d a b n:Int)(w:World):Calls Tryz.prog 80 #[.agg #[.int .u8 k,.int .i64 d,.int .i64 a,.int .i64 b,.int .i64 n]] w λA w'=>A=.returned (.bool (ko k))/\ac w w':=by
 by_cases r:k=12
 ·subst r
  rw[show ko 12=false from rfl];obtain⟨i,c⟩:=eX (w.alloc (.cells #[.int .u8 12,.int .i64 d,.int .i64 a,.int .i64 b,.int .i64 n] 106));have l:ac w i:=by rw[c];exact(aa.refl _ w).alloc _
  obtain⟨g,e⟩:=eX w.heap.size;have j:ae i g 106 #[.int .u8 12,.int .i64 d,.int .i64 a,.int .i64 b,.int .i64 n]:=by rw[c,e];exact bN
  have q:=j.I 0;simp[] at q;have o:=hD l;have f:=hD c.symm;have m:=hD e;clear c l e j;go_enter Tryz.func80,Tryz.ntmps80;go_upto_region 1 with fail;rw[f.O,<-m.O];clear f;go_wp2_with fail;go_ret;exact⟨rfl,o.O⟩
 have x:(k==12)=false:=bF r
 by_cases u:k=13
 ·subst u
  rw[show ko 13=false from rfl];obtain⟨i,c⟩:=eX (w.alloc (.cells #[.int .u8 13,.int .i64 d,.int .i64 a,.int .i64 b,.int .i64 n] 106));have l:ac w i:=by rw[c];exact(aa.refl _ w).alloc _
  obtain⟨g,e⟩:=eX w.heap.size;have j:ae i g 106 #[.int .u8 13,.int .i64 d,.int .i64 a,.int .i64 b,.int .i64 n]:=by rw[c,e];exact bN
  have q:=j.I 0;simp[] at q;have o:=hD l;have f:=hD c.symm;have m:=hD e;clear c l e j;go_enter Tryz.func80,Tryz.ntmps80;go_upto_region 1 with fail;rw[f.O,<-m.O];clear f;go_wp2_with fail;go_ret;exact⟨rfl,o.O⟩
 have y:(k==13)=false:=bF u
 by_cases v:k=14
 ·subst v
  rw[show ko 14=false from rfl];obtain⟨i,c⟩:=eX (w.alloc (.cells #[.int .u8 14,.int .i64 d,.int .i64 a,.int .i64 b,.int .i64 n] 106));have l:ac w i:=by rw[c];exact(aa.refl _ w).alloc _
  obtain⟨g,e⟩:=eX w.heap.size;have j:ae i g 106 #[.int .u8 14,.int .i64 d,.int .i64 a,.int .i64 b,.int .i64 n]:=by rw[c,e];exact bN
  have q:=j.I 0;simp[] at q;have o:=hD l;have f:=hD c.symm;have m:=hD e;clear c l e j;go_enter Tryz.func80,Tryz.ntmps80;go_upto_region 1 with fail;rw[f.O,<-m.O];clear f;go_wp2_with fail;go_ret;exact⟨rfl,o.O⟩
 have z:(k==14)=false:=bF v;rw[show ko k=true by unfold ko;simp[bne,x,y,z]];have B:(k !=12)=true:=by simp[bne,x]
 have C:(k !=13)=true:=by simp[bne,y]
 have D:(k !=14)=true:=by simp[bne,z]
 obtain⟨i,c⟩:=eX (w.alloc (.cells #[.int .u8 k,.int .i64 d,.int .i64 a,.int .i64 b,.int .i64 n] 106));have l:ac w i:=by rw[c];exact(aa.refl _ w).alloc _
 obtain⟨g,e⟩:=eX w.heap.size;have j:ae i g 106 #[.int .u8 k,.int .i64 d,.int .i64 a,.int .i64 b,.int .i64 n]:=by rw[c,e];exact bN
 have q:=j.I 0;simp[] at q;have o:=hD l;have f:=hD c.symm;have m:=hD e;clear c l e j;go_enter Tryz.func80,Tryz.ntmps80;go_upto_region 1 with fail;rw[f.O,<-m.O];clear f;go_wp2_with fail;go_ret;exact⟨rfl,o.O⟩
theorem Gw:∀(l:List Value),l.length=5->∀e f g i j:Value,((((l.set 0 e).set 1 f).set 2 g).set 3 i).set 4 j= [e,f,g,i,j]
 | [],c,_,_,_,_,_=>nomatch c
 | [_],c,_,_,_,_,_=>nomatch c
 | [_,_],c,_,_,_,_,_=>nomatch c
 | [_,_,_],c,_,_,_,_,_=>nomatch c
 | [_,_,_,_],c,_,_,_,_,_=>nomatch c
 | [_,_,_,_,_],_,_,_,_,_,_=>rfl
 |_ :: _ :: _ :: _ :: _ :: _ :: _,c,_,_,_,_,_=>by simp at c
theorem Ga(cs:Array Value)(j:cs.size=5)(c e f g i:Value):((((cs.setIfInBounds 0 c).setIfInBounds 1 e).setIfInBounds 2 f).setIfInBounds 3 g).setIfInBounds 4 i= #[c,e,f,g,i]:=by
 apply Yd.1;simp only[zW];exact Gw cs.toList (by simpa using j) c e f g i
theorem xC{w:World}{g:Nat}{T:TypeId}{cs:Array Value}(l:ae w g T cs)(m:cs.size=5)(c e f i j:Value):ae (((((w.setCell ⟨g,0,none⟩ c).setCell ⟨g,1,none⟩ e).setCell ⟨g,2,none⟩ f).setCell ⟨g,3,none⟩ i).setCell ⟨g,4,none⟩ j) g T #[c,e,f,i,j]/\aa (λb=>b=g) w (((((w.setCell ⟨g,0,none⟩ c).setCell ⟨g,1,none⟩ e).setCell ⟨g,2,none⟩ f).setCell ⟨g,3,none⟩ i).setCell ⟨g,4,none⟩ j):=by
 refine⟨?_,(af w g 0 c).trans ((af _ g 1 e).trans ((af _ g 2 f).trans ((af _ g 3 i).trans (af _ g 4 j))))⟩;rw[<-Ga cs m c e f i j];exact((((l.s_ 0 c).s_ 1 e).s_ 2 f).s_ 3 i).s_ 4 j
theorem uS{w:World}{g:Nat}{cs:Array Value}(c:ae w g 106 cs)(A:cs.size=5)(k d a b n:Int):(Instr.storeAt 106 (.pointer (some ⟨g,0,none⟩)) (.agg #[.int .u8 k,.int .i64 d,.int .i64 a,.int .i64 b,.int .i64 n])).run Tryz.prog w=.ok () (((((w.setCell ⟨g,0,none⟩ (.int .u8 k)).setCell ⟨g,1,none⟩ (.int .i64 d)).setCell ⟨g,2,none⟩ (.int .i64 a)).setCell ⟨g,3,none⟩ (.int .i64 b)).setCell ⟨g,4,none⟩ (.int .i64 n)):=by
 have e:=c.s_ 0 (.int .u8 k);have f:=e.s_ 1 (.int .i64 d);have i:=f.s_ 2 (.int .i64 a);have r:=i.s_ 3 (.int .i64 b);have j:=c.I 0;have u:=c.fz 0;have l:=e.I 1;have v:=e.fz 1;have m:=f.I 2;have x:=f.fz 2;have o:=i.I 3;have y:=i.fz 3;have q:=r.I 4;have z:=r.fz 4;simp[A] at j l m o q;simp[go_sem,Tryz.underlying106,j,l,m,o,q,u,v,x,y,z]
def eW(p:List ah)(t:aj)(s:ep):Int×ep:=
 let o:=bB p t.fn s.at_
 if s.left=0 then(130,s)
 else if o.k=12\/o.k=13\/o.k=14 then(0,{s with left:=s.left-1,at_:=s.at_+1})
 else match dF o s.rg (s.at_+1) with
  |none=>(131,{s with left:=s.left-1,at_:=s.at_+1})
  |some x=>(0,{s with left:=s.left-1,rg:=x.1,at_:=x.2})
def xY(w w':World)(rb:Nat)(L:gT)(p:List ah)(t:aj)(s:ep)(e:Ending):Prop:=
 e=.returned (.tuple #[cR (bB p t.fn s.at_),.int .i64 (eW p t s).1])/\cu w' rb L p t (eW p t s).2/\aa (λb=>b=rb\/b=L.gb) w w'
structure F4(p:List ah)(t:aj)(s:ep):Prop where
 at0:0<=s.at_
 at1:s.at_<(bG p t.fn).ops.length
 rl:(s.rg.length:Int)=(bG p t.fn).rg
 ri:∀x∈s.rg,dy x
 lf:s.left<=65536
theorem B3(p:List ah)(F:Nat->Prop)(t:aj)(w:World)(rb:Nat)(L:gT)(s:ep)(dp:fP w F L.PA p)(dr:gH p)(R:cC p t)(G:cu w rb L p t s)(S:F4 p t s):
 Calls Tryz.prog 41 #[.pointer (some ⟨rb,0,none⟩)] w λe w'=>xY w w' rb L p t s e:=by
 obtain⟨n,ce⟩:=eX p.length;obtain⟨fn,bb⟩ :∃fn:Nat,t.fn=(fn:Int):=ym R.fn0;obtain⟨at_,a1⟩ :∃at_:Nat,s.at_=(at_:Int):=ym S.at0;obtain⟨x,T⟩:=eX (bG p t.fn);have e1:p[fn]?=some x:=by rw[T,<-(gy R.fn0 R.fn1).2,bb,yo]
 have ci:=dr.fn R.fn0 R.fn1;obtain⟨o,bn⟩:=eX (bB p t.fn s.at_);have cg:=kF (p:=p) (i:=t.fn) S.at0 S.at1;have cf:=ci.ops _ cg.1;have e4:x.ops[at_]?=some o:=by rw[T,bn,<-cg.2,a1,yo]
 rw[<-bn,<-T] at cf;have ch:=S.rl;rw[<-T] at ch;have bk:=S.at1;rw[<-T,a1] at bk;obtain⟨fa,fb⟩:=ca (fn:=fn) (n:=n) (by have:=R.fn1;rw[bb,<-ce] at this;exact yB.1 this);obtain⟨cn,bm⟩:=eX x.ops.length;rw[<-bm] at bk;obtain⟨fd,ff⟩:=ca (fn:=at_) (n:=cn) (yB.1 bk);have dw:s.at_<=64:=by have:=ci.o64;rw[<-T,<-bm] at this;rw[a1];omega
 obtain⟨D,b9⟩:=eX (w.alloc (.cells #[.int .u8 0,.int .i64 0,.int .i64 0,.int .i64 0,.int .i64 0] 106));have bo:ac w D:=by rw[b9];exact(aa.refl _ w).alloc _
 obtain⟨g,cd⟩:=eX w.heap.size;have db:ae D g 106 #[.int .u8 0,.int .i64 0,.int .i64 0,.int .i64 0,.int .i64 0]:=by rw[b9,cd];exact bN
 have a9:=G.U bo;have b8:=a9.J.I 0;have c4:=a9.J.I 2;have X:=a9.J.I 6;simp[cT,<-ce] at b8;simp[cT,bb] at c4;simp[cT,a1] at X;have dq:=dp.U bo;obtain⟨b,bq,B,dm,dn,_,_,cm,e0⟩:=dq.at_ e1;obtain⟨r,u,rfl,a2⟩:=e0.at_ e4;rw[dn] at b8;rw[<-bm] at cm;have br:=a2 0 (.int .u8 o.k) rfl;have cp:=a2 1 (.int .i64 o.d) rfl;have cq:=a2 2 (.int .i64 o.a) rfl;have cr:=a2 3 (.int .i64 o.b) rfl;have cs:=a2 4 (.int .i64 o.n) rfl;rw[yW] at br;obtain⟨k,d,a,c,f⟩:=o;simp only at br cp cq cr cs;have e6:=hD a9;have d2:=hD db;have ee:=hD bo;have b3:=hD bn;have d5:=hD cf;have d6:=hD b9.symm;have b0:=hD cd;have b4:=hD S;have bt:=hD (aI ch dw);have f2:=hD a1;clear dp dr R G S ce bb a1 T e1 ci bn cg cf e4 ch bk bm dw b9 bo cd db a9 dq dn e0 a2;go_enter Tryz.func41,Tryz.ntmps41;go_upto_region 1 with fail;rw[d6.O,<-b0.O];clear d6
 have d4:Hd (∀W,ac D W->ac D W/\W.cell? ⟨rb,0,none⟩=some (.slice (some ⟨b,bq,none⟩) n L.pc)/\W.cell? ⟨rb,2,none⟩=some (.int .i64 (fn:Int))/\W.cell? ⟨rb,6,none⟩=some (.int .i64 (at_:Int))/\W.cell? ⟨b,bq+fn*3+2,none⟩=some (.slice (some ⟨r,u,none⟩) cn dm)/\W.cell? ⟨r,u+at_*5,none⟩=some (.int .u8 k)/\W.cell? ⟨r,u+at_*5+1,none⟩=some (.int .i64 d)/\W.cell? ⟨r,u+at_*5+2,none⟩=some (.int .i64 a)/\W.cell? ⟨r,u+at_*5+3,none⟩=some (.int .i64 c)/\W.cell? ⟨r,u+at_*5+4,none⟩=some (.int .i64 f)):=hD λW A=>by
  have z:∀(b7 j:Nat) (v:Value),D.cell? ⟨b7,j,none⟩=some v->W.cell? ⟨b7,j,none⟩=some v:=λb7 j v hv=>(A.I (p:=⟨b7,j,none⟩) (block_lt_of_cell hv) nF).trans hv
  exact⟨A,z _ _ _ b8,z _ _ _ c4,z _ _ _ X,z _ _ _ cm,z _ _ _ br,z _ _ _ cp,z _ _ _ cq,z _ _ _ cr,z _ _ _ cs⟩
 have l:=d4;have c9:=l.O D oR;clear d4 b8 c4 X cm br cp cq cr cs
 go_region_held3 (λW=>ac D W/\W.cell? ⟨rb,0,none⟩=some (.slice (some ⟨b,bq,none⟩) n L.pc)/\W.cell? ⟨rb,2,none⟩=some (.int .i64 (fn:Int))/\W.cell? ⟨rb,6,none⟩=some (.int .i64 (at_:Int))/\W.cell? ⟨b,bq+fn*3+2,none⟩=some (.slice (some ⟨r,u,none⟩) cn dm)/\W.cell? ⟨r,u+at_*5,none⟩=some (.int .u8 k)/\W.cell? ⟨r,u+at_*5+1,none⟩=some (.int .i64 d)/\W.cell? ⟨r,u+at_*5+2,none⟩=some (.int .i64 a)/\W.cell? ⟨r,u+at_*5+3,none⟩=some (.int .i64 c)/\W.cell? ⟨r,u+at_*5+4,none⟩=some (.int .i64 f))
  (with_reducible first|exact l.O _ oR|exact l.O _ (aa.drew oR)|exact l.O _ (aa.alloc oR _)|exact l.O _ (aa.alloc (aa.drew oR) _)|exact l.O _ (aa.drew (aa.alloc oR _))|fail) (fail)
 obtain⟨a7,ba⟩:=eX ((D.alloc (.cells #[.int .u8 k,.int .i64 d,.int .i64 a,.int .i64 c,.int .i64 f] 106)).drew);obtain⟨q,bc⟩:=eX D.heap.size;rw[<-ba,<-bc];have bp:ac D a7:=by rw[ba];exact(oR.alloc _).drew
 have a8:ae a7 q 106 #[.int .u8 k,.int .i64 d,.int .i64 a,.int .i64 c,.int .i64 f]:=by rw[ba,bc];exact bN.drew
 have c1:=bp.J d2.O nF;have dz:g≠q:=λe=>by have:=d2.O.lt;rw[e,bc] at this;exact absurd this (yQ _)
 have c7:=e6.O.U bp;have K:=hD c7;have d3:=hD a8;have P:=hD c1;have ec:=hD dz;have bx:=hD (ee.O.trans bp);have c5:=c7.J.I 7;simp[cT] at c5;obtain⟨a3,bf⟩:=eX s.left;rw[<-bf] at c5;have b2:=hD bf
 have b5:Hd (eW p t s=if a3=0 then((130:Int),s) else if k=12\/k=13\/k=14 then(0,{s with left:=s.left-1,at_:=s.at_+1}) else match dF ⟨k,d,a,c,f⟩ s.rg (s.at_+1) with
  |none=>(131,{s with left:=s.left-1,at_:=s.at_+1})
  |some x=>(0,{s with left:=s.left-1,rg:=x.1,at_:=x.2})):=hD (by unfold eW;rw[<-b3.O,<-bf])
 clear c9 l ba bc bp dz c7 bf
 by_cases ck:a3=0
 ·subst ck
  obtain⟨cv,cw,cB,d0,d1⟩:=a8.gE5;clear c1 a8
  go_wp2_with (refine ky rfl 106 (.tmp 2) (.tmp 29) rfl rfl rfl (uS P.O rfl _ _ _ _ _) ?_)
  obtain⟨Y,Z⟩:=xC P.O rfl (.int .u8 k) (.int .i64 d) (.int .i64 a) (.int .i64 c) (.int .i64 f);obtain⟨d9,a0⟩:=eX ((((((a7.setCell ⟨g,0,none⟩ (.int .u8 k)).setCell ⟨g,1,none⟩ (.int .i64 d)).setCell ⟨g,2,none⟩ (.int .i64 a)).setCell ⟨g,3,none⟩ (.int .i64 c)).setCell ⟨g,4,none⟩ (.int .i64 f)));rw[<-a0] at Y Z;rw[<-a0];refine bodyPost_ret (aO Tryz.results41 rfl Y Tryz.underlying106 rfl (by kernel_rfl)) rfl ?_;have C:eW p t s=(130,s):=by rw[b5.O];simp
  refine⟨?_,?_,?_⟩
  ·rw[C,<-b3.O];rfl
  ·rw[C]
   exact K.O.kp Z (λe=>ae.ne_ P.O K.O.J (by decide) e.symm) (λe=>ae.ne_ P.O K.O.rg (by decide) e.symm) (λb al e=>aA K.O.into P.O (by decide) (by rw[al,e]))
  ·exact((bx.O.mono λ_ e=>e.elim).trans' Z (λb e=>.inr (by rw[e,b0.O];exact lR)))
 ·have f8:((a3:Int)==0)=false:=bF (by omega)
  have f9:¬(a3:Int)=0:=by omega
  obtain⟨H,dv⟩:=eX (a3-1:Nat);have e3:wrap64 ((a3:Int)-1)=(H:Int):=by have:=b4.O.lf;rw[<-b2.O] at this;unfold wrap64;omega
  have er:=(aU _).trans e3;have el:=K.O.J.fz 7;have V:=hD (aI ck dv);clear ck dv;obtain⟨cv,cw,cB,d0,d1⟩:=a8.gE5;clear c1 a8;go_upto_region 5 with fail;obtain⟨d9,a0⟩:=eX (a7.setCell ⟨rb,7,none⟩ (.int .i64 (H:Int)));rw[<-a0];have c8:=K.O.left_set H;have an:=af a7 rb 7 (.int .i64 (H:Int));rw[<-a0] at c8 an;have c2:=an.J d3.O (λe=>ae.ne_ d3.O K.O.J (by decide) e);have dd:=an.J P.O (λe=>ae.ne_ P.O K.O.J (by decide) e);have e7:=hD c8;have e9:=hD c2;have e8:=hD dd;have d7:=hD an;have ef:=hD (BG k d a c f d9);obtain⟨v0,v1,v2,v3,v4⟩:=c2.gE5;clear a0 c8 an c2 dd cv cw cB d0 d1 el e3 er c5;go_wp2_with fail;refine ef.O.mono ?_;rintro e E ⟨rfl,ar⟩;have d8:=hD ar;have ab:=e7.O.U ar;have N:=hD ab;have c3:=ar.J e9.O nF;have a6:=hD c3;have a4:=hD (ar.J e8.O nF);clear ar v0 v1 v2 v3 v4
  by_cases am:k=12\/k=13\/k=14
  ·have em:ko k=false:=by rcases am with e|e|e<;>subst e<;>rfl
   have X:=ab.J.I 6;have ek:=ab.J.fz 6;simp[cT] at X;have e2:=jW b4.O.at0 bt.O.2;have eq:=(aU _).trans e2;have b1:=hD am;clear ab c3 am;go_upto_region 7 with fail;obtain⟨da,cb⟩:=eX (E.setCell ⟨rb,6,none⟩ (.int .i64 (s.at_+1)));rw[<-cb];have Y:=N.O.at_set (s.at_+1);have av:=af E rb 6 (.int .i64 (s.at_+1));rw[<-cb] at Y av;have dl:=av.J a6.O (λe=>ae.ne_ a6.O N.O.J (by decide) e);have dk:=av.J a4.O (λe=>ae.ne_ a4.O N.O.J (by decide) e);have ei:Hd (aa (λb=>b=rb\/b=L.gb) w da):=hD ((((bx.O.mono λ_ e=>e.elim).trans (d7.O.mono λb e=>.inl e)).trans (d8.O.mono λ_ e=>e.elim)).trans (av.mono λb e=>.inl e));have aw:=hD Y;have a5:=hD dk;obtain⟨cv,cw,cB,d0,d1⟩:=dl.gE5;clear cb Y av dl dk X ek e2 eq
   go_wp2_with (refine ky rfl 106 (.tmp 2) (.tmp 47) rfl rfl rfl (uS a5.O rfl _ _ _ _ _) ?_)
   have C:eW p t s=(0,{s with left:=H,at_:=s.at_+1}):=by
    rw[b5.O,yb V.O.1,yf b1.O,V.O.2,b2.O]
   obtain⟨ad,Q⟩:=xC a5.O rfl (.int .u8 k) (.int .i64 d) (.int .i64 a) (.int .i64 c) (.int .i64 f);obtain⟨W9,ai⟩:=eX ((((((da.setCell ⟨g,0,none⟩ (.int .u8 k)).setCell ⟨g,1,none⟩ (.int .i64 d)).setCell ⟨g,2,none⟩ (.int .i64 a)).setCell ⟨g,3,none⟩ (.int .i64 c)).setCell ⟨g,4,none⟩ (.int .i64 f)));rw[<-ai] at ad Q;rw[<-ai];refine bodyPost_ret (aO Tryz.results41 rfl ad Tryz.underlying106 rfl (by kernel_rfl)) rfl ?_;refine⟨?_,?_,?_⟩
   ·rw[C,<-b3.O];rfl
   ·rw[C]
    exact aw.O.kp Q (λe=>ae.ne_ a5.O aw.O.J (by decide) e.symm) (λe=>ae.ne_ a5.O aw.O.rg (by decide) e.symm) (λb al e=>aA aw.O.into a5.O (by decide) (by rw[al,e]))
   ·exact ei.O.trans' Q (λb e=>.inr (by rw[e,b0.O];exact lR))
  ·have ds:k<=11:=by have:=d5.O.k;simp only at this;omega
   have em:ko k=true:=by
    unfold ko;simp only[bne,bF (show k≠12 by omega),bF (show k≠13 by omega),bF (show k≠14 by omega)];rfl
   have bv:Hd (∀W,ac E W->Calls Tryz.prog 81 #[.pointer (some ⟨rb,0,none⟩),.agg #[.int .u8 k,.int .i64 d,.int .i64 a,.int .i64 c,.int .i64 f]] W λe w'=>lJ W w' rb L p t {s with left:=H} ⟨k,d,a,c,f⟩ e):=hD λW A=>
    BY (s:={s with left:=H}) ⟨k,d,a,c,f⟩ d5.O bt.O.1 ds (N.O.U A) b4.O.at0 bt.O.2 b4.O.ri
   have b1:=hD am;clear ab c3 am ds;go_upto_region 8 with fail
   obtain⟨c6,s',C,eg⟩ :∃c6 s',eW p t s=(c6,s')/\Hd (∀W,ac E W->Calls Tryz.prog 81 #[.pointer (some ⟨rb,0,none⟩),.agg #[.int .u8 k,.int .i64 d,.int .i64 a,.int .i64 c,.int .i64 f]] W λe w'=>e=.returned (.int .i64 c6)/\cu w' rb L p t s'/\aa (λb=>b=rb\/b=L.gb) W w'):=by
    cases hpp:dF ⟨k,d,a,c,f⟩ s.rg (s.at_+1) with
    |none=>
     refine⟨131,{s with left:=H,at_:=s.at_+1},?_,hD λW A=>?_⟩
     ·rw[b5.O,yb V.O.1,yb b1.O,hpp,V.O.2,b2.O]
     ·have:=bv.O W A
      unfold lJ at this;simp only[hpp] at this;exact this.mono λe w' G=>⟨G.1.1,G.1.2,G.2⟩
    |some y=>
     refine⟨0,{s with left:=H,rg:=y.1,at_:=y.2},?_,hD λW A=>?_⟩
     ·rw[b5.O,yb V.O.1,yb b1.O,hpp,V.O.2,b2.O]
     ·have:=bv.O W A
      unfold lJ at this;simp only[hpp] at this;exact this.mono λe w' G=>⟨G.1.1,G.1.2,G.2⟩
   have ea:=hD C;clear C bv;have eb:Hd (¬(g=rb\/g=L.gb)):=hD (λe=>e.elim (ae.ne_ a4.O N.O.J (by decide)) (ae.ne_ a4.O N.O.rg (by decide)))
   have l:Hd (∀W,aa (λb=>b=rb\/b=L.gb\/b=g) E W->aa (λb=>b=rb\/b=L.gb\/b=g) E W/\W.cell? ⟨q,0,none⟩=some (.int .u8 k)/\W.cell? ⟨q,1,none⟩=some (.int .i64 d)/\W.cell? ⟨q,2,none⟩=some (.int .i64 a)/\W.cell? ⟨q,3,none⟩=some (.int .i64 c)/\W.cell? ⟨q,4,none⟩=some (.int .i64 f)):=hD λW A=>by
    have z:=A.J a6.O (λe=>e.elim (ae.ne_ a6.O N.O.J (by decide)) (λe=>e.elim (ae.ne_ a6.O N.O.rg (by decide)) (λe=>ec.O e.symm)));exact⟨A,z.I 0,z.I 1,z.I 2,z.I 3,z.I 4⟩
   have c9:=l.O E oR
   go_region_held3 (λW=>aa (λb=>b=rb\/b=L.gb\/b=g) E W/\W.cell? ⟨q,0,none⟩=some (.int .u8 k)/\W.cell? ⟨q,1,none⟩=some (.int .i64 d)/\W.cell? ⟨q,2,none⟩=some (.int .i64 a)/\W.cell? ⟨q,3,none⟩=some (.int .i64 c)/\W.cell? ⟨q,4,none⟩=some (.int .i64 f))
    (with_reducible first|exact l.O _ oR|exact l.O _ (aa.drew oR)|exact l.O _ c0.O|exact l.O _ (aa.drew c0.O)|exact l.O _ (aa.trans c0.O (aa.mono (And.right (xC m rfl _ _ _ _ _)) (λb e=>Or.inr (Or.inr e))))|fail)
    (first
     |(go_at_call 81;refine(eg.O _ (aa.drew oR)).mono ?_;rintro e b6 ⟨rfl,Z,e5⟩;have bz:Hd (aa (λb=>b=rb\/b=L.gb) E b6):=hD (aa.trans (aa.drew oR) e5);have c0:Hd (aa (λb=>b=rb\/b=L.gb\/b=g) E b6):=hD (bz.O.mono λb e=>e.imp id λe=>.inl e);have az:=hD Z;clear Z e5;have m:=bz.O.J a4.O eb.O;have es:=m.I 0;have f3:=m.fz 0;have ex:=m.I 1;have f4:=m.fz 1;have eL:=m.I 2;have f5:=m.fz 2;have f0:=m.I 3;have f6:=m.fz 3;have f1:=m.I 4;have f7:=m.fz 4;simp at es ex eL f0 f1)
     |fail)
   have C:=ea.O;have ej:Hd (aa (λb=>b=rb\/b=L.gb) w b6):=hD ((((bx.O.mono λ_ e=>e.elim).trans (d7.O.mono λb e=>.inl e)).trans (d8.O.mono λ_ e=>e.elim)).trans bz.O);have aE:=hD m;clear m c9;go_wp2_with fail;obtain⟨ad,Q⟩:=xC aE.O rfl (.int .u8 k) (.int .i64 d) (.int .i64 a) (.int .i64 c) (.int .i64 f);obtain⟨W9,ai⟩:=eX ((((((b6.setCell ⟨g,0,none⟩ (.int .u8 k)).setCell ⟨g,1,none⟩ (.int .i64 d)).setCell ⟨g,2,none⟩ (.int .i64 a)).setCell ⟨g,3,none⟩ (.int .i64 c)).setCell ⟨g,4,none⟩ (.int .i64 f)));rw[<-ai] at ad Q;rw[<-ai];refine bodyPost_ret (aO Tryz.results41 rfl ad Tryz.underlying106 rfl (by kernel_rfl)) rfl ?_;refine⟨?_,?_,?_⟩
   ·rw[C,<-b3.O];rfl
   ·rw[C]
    exact az.O.kp Q (λe=>ae.ne_ aE.O az.O.J (by decide) e.symm) (λe=>ae.ne_ aE.O az.O.rg (by decide) e.symm) (λb al e=>aA az.O.into aE.O (by decide) (by rw[al,e]))
   ·exact ej.O.trans' Q (λb e=>.inr (by rw[e,b0.O];exact lR))
def qF:Value:=.agg #[.string ⟨#[]⟩,.int .i64 0,.slice none 0 0,.int .i64 0]
def qH(w w':World)(rb:Nat)(L:gT)(p:List ah)(t:aj)(s:ep)(x:Int)(e:Ending):Prop:=
 e=.returned (.tuple #[qF,.int .i64 x])/\cu w' rb L p t s/\ac w w'
theorem Gv:∀(l:List Value),l.length=4->∀e f g i:Value,(((l.set 0 e).set 1 f).set 2 g).set 3 i= [e,f,g,i]
 | [],c,_,_,_,_=>nomatch c
 | [_],c,_,_,_,_=>nomatch c
 | [_,_],c,_,_,_,_=>nomatch c
 | [_,_,_],c,_,_,_,_=>nomatch c
 | [_,_,_,_],_,_,_,_,_=>rfl
 |_ :: _ :: _ :: _ :: _ :: _,c,_,_,_,_=>by simp at c
theorem F8(cs:Array Value)(i:cs.size=4)(c e f g:Value):(((cs.setIfInBounds 0 c).setIfInBounds 1 e).setIfInBounds 2 f).setIfInBounds 3 g= #[c,e,f,g]:=by
 apply Yd.1;simp only[zW];exact Gv cs.toList (by simpa using i) c e f g
theorem set4{w:World}{g:Nat}{T:TypeId}{cs:Array Value}(j:ae w g T cs)(l:cs.size=4)(c e f i:Value):ae ((((w.setCell ⟨g,0,none⟩ c).setCell ⟨g,1,none⟩ e).setCell ⟨g,2,none⟩ f).setCell ⟨g,3,none⟩ i) g T #[c,e,f,i]/\aa (λb=>b=g) w ((((w.setCell ⟨g,0,none⟩ c).setCell ⟨g,1,none⟩ e).setCell ⟨g,2,none⟩ f).setCell ⟨g,3,none⟩ i):=by
 refine⟨?_,(af w g 0 c).trans ((af _ g 1 e).trans ((af _ g 2 f).trans (af _ g 3 i)))⟩;rw[<-F8 cs l c e f i];exact(((j.s_ 0 c).s_ 1 e).s_ 2 f).s_ 3 i
theorem xK{w:World}{g:Nat}{cs:Array Value}(e:ae w g 30 cs)(y:cs.size=4)(a:ByteArray)(b d:Int)(A:Option Addr)(n c:Nat):(Instr.storeAt 30 (.pointer (some ⟨g,0,none⟩)) (.agg #[.string a,.int .i64 b,.slice A n c,.int .i64 d])).run Tryz.prog w=.ok () ((((w.setCell ⟨g,0,none⟩ (.string a)).setCell ⟨g,1,none⟩ (.int .i64 b)).setCell ⟨g,2,none⟩ (.slice A n c)).setCell ⟨g,3,none⟩ (.int .i64 d)):=by
 have f:=e.s_ 0 (.string a);have i:=f.s_ 1 (.int .i64 b);have q:=i.s_ 2 (.slice A n c);have j:=e.I 0;have r:=e.fz 0;have l:=f.I 1;have u:=f.fz 1;have m:=i.I 2;have v:=i.fz 2;have o:=q.I 3;have x:=q.fz 3;simp[y] at j l m o;simp[go_sem,Tryz.underlying30,j,l,m,o,r,u,v,x]
section
variable {w:World}{rb:Nat}{L:gT}{p:List ah}{t:aj}{s:ep}(k d a b n:Int)
theorem BV(C:cu w rb L p t s)(F:s.kd=16):Calls Tryz.prog 42 #[.pointer (some ⟨rb,0,none⟩),cR ⟨k,d,a,b,n⟩] w λc w'=>qH w w' rb L p t s 132 c:=by
 unfold cR;obtain⟨e,i⟩:=eX (w.alloc (.cells #[.int .u8 k,.int .i64 d,.int .i64 a,.int .i64 b,.int .i64 n] 106));obtain⟨f,o⟩:=eX (e.alloc (.cells #[.string ⟨#[]⟩,.int .i64 0,.slice none 0 0,.int .i64 0] 30));have G:ac w e:=by rw[i];exact(aa.refl _ w).alloc _
 have v:ac e f:=by rw[o];exact oR.alloc _
 obtain⟨g,q⟩:=eX w.heap.size;have A:ae f g 106 #[.int .u8 k,.int .i64 d,.int .i64 a,.int .i64 b,.int .i64 n]:=v.J (by rw[i,q];exact bN) nF;have m:ae f (g+1) 30 #[.string ⟨#[]⟩,.int .i64 0,.slice none 0 0,.int .i64 0]:=by rw[o];have:=ae.new e 30 #[.string ⟨#[]⟩,.int .i64 0,.slice none 0 0,.int .i64 0];rw[show e.heap.size=g+1 by rw[i,q];simp] at this;exact this
 have x:=G.trans v;have r:=C.U x;have z:=hD (show((w.alloc (.cells #[.int .u8 k,.int .i64 d,.int .i64 a,.int .i64 b,.int .i64 n] 106)).alloc (.cells #[.string ⟨#[]⟩,.int .i64 0,.slice none 0 0,.int .i64 0] 30))=f by rw[o,i]);have j:=hD r;have N:=hD A;have l:=hD m;have H:=hD x;have y:=hD q;have B:=r.J.I 8;simp[cT] at B;rw[F] at B;obtain⟨T,V,W,X⟩:=m.gE4;obtain⟨P,Q,R,S⟩:=m.fE4;clear C F i o G v q A m x r;go_enter Tryz.func42,Tryz.ntmps42;go_upto_region 1 with fail;rw[z.O,<-y.O];clear z;go_wp2_with fail;obtain⟨D,u⟩:=set4 l.O rfl (.string ⟨#[]⟩) (.int .i64 0) (.slice none 0 0) (.int .i64 0);obtain⟨W9,E⟩:=eX (((((f.setCell ⟨g+1,0,none⟩ (.string ⟨#[]⟩)).setCell ⟨g+1,1,none⟩ (.int .i64 0)).setCell ⟨g+1,2,none⟩ (.slice none 0 0)).setCell ⟨g+1,3,none⟩ (.int .i64 0)));rw[<-E] at D u;rw[<-E];refine bodyPost_ret (aO Tryz.results42 rfl D Tryz.underlying30 rfl (by kernel_rfl)) rfl ?_;refine⟨rfl,?_,?_⟩
 ·exact j.O.kp u (λc=>ae.ne_ l.O j.O.J (by decide) c.symm) (λc=>ae.ne_ l.O j.O.rg (by decide) c.symm) (λb K c=>aA j.O.into l.O (by decide) (by rw[K,c]))
 ·exact H.O.trans' u (λb c=>.inr (by rw[c,y.O];exact yX _))
theorem BU(Q:cu w rb L p t s)(f:s.kd<16)(Y:fU t.M)(X:t.M.length=12):Calls Tryz.prog 42 #[.pointer (some ⟨rb,0,none⟩),cR ⟨k,d,a,b,n⟩] w λc w'=>qH w w' rb L p t s 133 c:=by
 unfold cR;obtain⟨i,l⟩:=eX (w.alloc (.cells #[.int .u8 k,.int .i64 d,.int .i64 a,.int .i64 b,.int .i64 n] 106));obtain⟨e,v⟩:=eX (i.alloc (.cells #[.string ⟨#[]⟩,.int .i64 0,.slice none 0 0,.int .i64 0] 30));have a1:ac w i:=by rw[l];exact(aa.refl _ w).alloc _
 have B:ac i e:=by rw[v];exact oR.alloc _
 obtain⟨g,x⟩:=eX w.heap.size;have K:ae e g 106 #[.int .u8 k,.int .i64 d,.int .i64 a,.int .i64 b,.int .i64 n]:=B.J (by rw[l,x];exact bN) nF;have N:ae e (g+1) 30 #[.string ⟨#[]⟩,.int .i64 0,.slice none 0 0,.int .i64 0]:=by rw[v];have:=ae.new i 30 #[.string ⟨#[]⟩,.int .i64 0,.slice none 0 0,.int .i64 0];rw[show i.heap.size=g+1 by rw[l,x];simp] at this;exact this
 have C:=a1.trans B;have u:=Q.U C;have G:=hD (show((w.alloc (.cells #[.int .u8 k,.int .i64 d,.int .i64 a,.int .i64 b,.int .i64 n] 106)).alloc (.cells #[.string ⟨#[]⟩,.int .i64 0,.slice none 0 0,.int .i64 0] 30))=e by rw[v,l]);have a2:=hD u;have ab:=hD K;have a3:=hD N;have a4:=hD C;have E:=hD x;have P:=u.J.I 8;simp[cT] at P
 have F:Hd (∀W,Calls Tryz.prog 82 #[.string (sB t.M),.int .i64 ((s.kd:Int)+1)] W λc w'=>c=.returned (.tuple #[.string ByteArray.empty,.bool false])/\ac W w'):=hD λW=>by
  have:=sK t.M Y (s.kd+1) (Yh 1 _) f W;have c:=jS s.kd;rw[c] at this;unfold mc at this;rw[yf X] at this;exact this
 clear Y X;have Z:=kM f;have a9:=(aU _).trans Z;have V:=tj f;have a8:decide ((16:Int)<=(s.kd:Int))=false:=yd V;obtain⟨a0,y⟩:=eX s.kd;rw[<-y] at P a9 Z V a8 f F
 have j:Hd (∀W,ac e W->ac e W/\W.cell? ⟨rb,1,none⟩=some (.string (sB t.M))/\W.cell? ⟨rb,8,none⟩=some (.int .i64 (a0:Int))):=hD λW S=>by
  have q:=(u.U S).J;refine⟨S,q.I 1,?_⟩;rw[q.I 8];simp[cT,<-y]
 have ad:=hD (aI y f);have a6:=j.O e oR;clear Q f l v a1 B x K N C u y;go_enter Tryz.func42,Tryz.ntmps42;go_upto_region 1 with fail;rw[G.O,<-E.O];clear G;go_upto_region 3 with fail
 go_region_held3 (λw'=>ac e w'/\w'.cell? ⟨rb,1,none⟩=some (.string (sB t.M))/\w'.cell? ⟨rb,8,none⟩=some (.int .i64 (a0:Int)))
  (first|exact j.O _ (yt ‹_›)|exact j.O _ (aa.drew (yt ‹_›))|exact j.O _ (aa.trans (aa.drew (yt ‹_›)) D)|exact j.O _ (aa.trans (yt ‹_›) D)|fail)
  (first|(go_at_call 82;refine(F.O _).mono ?_;rintro c H ⟨rfl,D⟩)|fail)
 have z:Hd (ac e H):=hD (yt ‹_›);clear a6 D;have r:=z.O.J a3.O nF;obtain⟨ar,av,aw,az⟩:=r.gE4;obtain⟨ai,al,am,an⟩:=r.fE4;have o:=hD r;have m:=hD (a2.O.U z.O);have a5:=hD (a4.O.trans z.O);clear r;go_wp2_with fail;obtain⟨R,A⟩:=set4 o.O rfl (.string ⟨#[]⟩) (.int .i64 0) (.slice none 0 0) (.int .i64 0);obtain⟨W9,T⟩:=eX (((((H.setCell ⟨g+1,0,none⟩ (.string ⟨#[]⟩)).setCell ⟨g+1,1,none⟩ (.int .i64 0)).setCell ⟨g+1,2,none⟩ (.slice none 0 0)).setCell ⟨g+1,3,none⟩ (.int .i64 0)));rw[<-T] at R A;rw[<-T];refine bodyPost_ret (aO Tryz.results42 rfl R Tryz.underlying30 rfl (by kernel_rfl)) rfl ?_;refine⟨rfl,?_,?_⟩
 ·exact m.O.kp A (λc=>ae.ne_ o.O m.O.J (by decide) c.symm) (λc=>ae.ne_ o.O m.O.rg (by decide) c.symm) (λb a7 c=>aA m.O.into o.O (by decide) (by rw[a7,c]))
 ·exact a5.O.trans' A (λb c=>.inr (by rw[c,E.O];exact yX _))
end
def xS(w w':World)(rb:Nat)(L:gT)(p:List ah)(t:aj)(s:ep)(o:bK)(e:Ending):Prop:=
 ∃A6 c6 iv,e=.returned (.tuple #[.agg (bX (dc p t.M s.kd o s.rg s.left) A6 c6),.int .i64 0])/\aJ w' (bl w w') A6 (dc p t.M s.kd o s.rg s.left).args/\
  cu w' rb {L with iv:=iv} p t {s with left:=s.left-s.left / 2,kd:=s.kd+1,into:=s.into++ [o.d]}/\(∀b,iv.ownBlock=some b->L.iv.ownBlock=some b\/w.heap.size<=b)/\aa (λb=>b=rb\/L.iv.ownBlock=some b) w w'
theorem bR{w:World}{base:Nat}{f:TypeId}{l n:Nat}{v:Value}{xs:List Value}(i:w.ownsRow base f l v n xs):∃A c,v=.slice A n c:=by
 rcases i.2 with⟨e,j⟩|⟨g,m,_,e,_⟩
 ·exact⟨none,0,by rw[e,j]⟩
 ·exact⟨_,_,e⟩
theorem w8{w:World}{base:Nat}{i:TypeId}{m n b:Nat}{v:Value}{xs:List Value}{c:Nat}(j:w.ownsRow base i m v n xs)(e:v=.slice (some ⟨b,0,none⟩) n c):∃o,ae w b i o:=by
 rcases j.2 with⟨f,_⟩|⟨g,q,cur,f,_,l,_⟩
 ·rw[f] at e;cases e
 ·rw[f] at e
  cases e
  exact⟨cur,l⟩
theorem cu.appended{w w' g:World}{rb:Nat}{L:gT}{p:List ah}{t:aj}{s:ep}{f:Value}(d:Int)(e:cu w rb L p t s)(i:aa (λb=>L.iv.ownBlock=some b) w w')(o:aa (λb=>b=rb) w' g)
 (m:w'.ownsRow 0 3 1 f (s.into.length+1) (s.into.map (Value.int .i64)++ [.int .i64 d])) (q:ae g rb 112 (cT {L with iv:=f} p.length t {s with into:=s.into++ [d]})):
 cu g rb {L with iv:=f} p t {s with into:=s.into++ [d]}:=by
 have l:ae w' rb 112 (cT L p.length t s):=i.J e.J (λc=>aA e.into e.J (by decide) c);have j:ae w' L.gb 2 (s.rg.map (Value.int .i64)).toArray:=i.J e.rg (λc=>aA e.into e.rg (by decide) c);refine⟨q,o.J j (λc=>ae.ne_ j l (by decide) c),?_,e.cap⟩;have:=o.owns m (λb r c=>aA m l (by decide) (by rw[r,c]));show g.ownsRow 0 3 1 f (s.into++ [d]).length ((s.into++ [d]).map (Value.int .i64));rw[yk,yS];exact this
theorem wu{G:Array Oper}{o:Oper}{a:Act}{W:World}{f:Act->World->Prop}{Q:Exit->Act->World->Prop}{l:Prop}{q:Nat}{d:Int}(y:o.guard=none)(s x:Operand)
 (A:o.op=.call {callee:=.builtin .append,args:=#[s,x],argTypes:=#[110,110]}) (v:Value) (C:a.eval s=v) (E:a.eval x=.slice (some ⟨q,0,none⟩) 1 1)
 (n:Nat) (xs:List Value) (B:W.ownsRow 0 3 1 v n xs) (g:ae W q 3 #[.int .i64 d]) (H:n<16)
 (m:∀e w',w'.ownsRow 0 3 1 e (n+1) (xs++ [.int .i64 d])->W.grownBy w' v.ownBlock->(e.ownBlock=v.ownBlock\/e.ownBlock=some W.heap.size)->f (a.put o.dst e) w'):
 if Region.wanted o (yielded G a.tmps)=true then Oper.wp Tryz.prog o a W f Q else l:=by
 obtain⟨i,z,F,D,r⟩:=vE;refine gZ W y s x 110 A 0 3 i _ 1 8 Tryz.underlying110 z F D r rfl (by decide) v n xs C B W.heap.size (some ⟨q,0,none⟩) 1 1 [.int .i64 d] E ⟨rfl,λ_=>⟨⟨q,0,none⟩,rfl,g.lt,λj u c=>?_⟩⟩ (λu c=>by cases c with|head=>rfl|tail _ h=>cases h) (by unfold maxLen;omega) (by omega) (yx _) m;rw[bg,yq,g.I]
 cases j with
 |zero=>exact c
 |succ j=>simp at c
def Fc(w wx:World)(g g9 rb:Nat)(L:gT)(p:List ah)(t:aj)(s:ep)(ops:Array Value)(kp:ByteArray)(fn m hf:Nat)(xs:List Int):Prop:=
 ∃A6 c6,ac w wx/\ae wx g9 30 #[.string kp,.int .i64 (fn:Int),.slice A6 m c6,.int .i64 (hf:Int)]/\cu wx rb L p t s/\aJ wx (bl w wx) A6 xs/\ae wx g 106 ops/\ae wx (g+1) 30 #[.string ⟨#[]⟩,.int .i64 0,.slice none 0 0,.int .i64 0]
def Eh(w wx:World)(g g9 rb:Nat)(L:gT)(p:List ah)(t:aj)(s:ep)(kp:ByteArray)(fn m hf:Nat)(xs:List Int)(A6:Option Addr)(c6:Nat):Prop:=
 ∃iv,cu wx rb {L with iv:=iv} p t s/\ae wx g9 30 #[.string kp,.int .i64 (fn:Int),.slice A6 m c6,.int .i64 (hf:Int)]/\aJ wx (bl w wx) A6 xs/\ae wx (g+1) 30 #[.string ⟨#[]⟩,.int .i64 0,.slice none 0 0,.int .i64 0]/\
  (∀b,iv.ownBlock=some b->L.iv.ownBlock=some b\/w.heap.size<=b)/\aa (λb=>b=rb\/L.iv.ownBlock=some b) w wx
section
variable {w:World}{rb:Nat}{L:gT}{p:List ah}{t:aj}{s:ep}
theorem EY(F:Nat->Prop)(k d b:Int)(a fn:Nat)(x:ah)(f8:fP w F L.PA p)(d3:cu w rb L p t s)(l:s.kd<16)(fq:fU t.M)(fp:t.M.length<12)(bb:p[fn]?=some x)(fs:0<=x.args)(G:x.args=0\/(a:Int)+x.args<=s.rg.length)
 (a1:s.rg.length<=1000) (Z:s.left<=1000000) (fk:s.into.length<16):
 Calls Tryz.prog 42 #[.pointer (some ⟨rb,0,none⟩),cR ⟨k,d,a,b,fn⟩] w λe w'=>xS w w' rb L p t s ⟨k,d,a,b,fn⟩ e:=by
 unfold cR;obtain⟨az,b4⟩:=eX (w.alloc (.cells #[.int .u8 k,.int .i64 d,.int .i64 (a:Int),.int .i64 b,.int .i64 (fn:Int)] 106));obtain⟨C,c9⟩:=eX (az.alloc (.cells #[.string ⟨#[]⟩,.int .i64 0,.slice none 0 0,.int .i64 0] 30));have g4:ac w az:=by rw[b4];exact(aa.refl _ w).alloc _
 have e0:ac az C:=by rw[c9];exact oR.alloc _
 obtain⟨g,cf⟩:=eX w.heap.size;have es:ae C g 106 #[.int .u8 k,.int .i64 d,.int .i64 (a:Int),.int .i64 b,.int .i64 (fn:Int)]:=e0.J (by rw[b4,cf];exact bN) nF;have f0:ae C (g+1) 30 #[.string ⟨#[]⟩,.int .i64 0,.slice none 0 0,.int .i64 0]:=by rw[c9];have:=ae.new az 30 #[.string ⟨#[]⟩,.int .i64 0,.slice none 0 0,.int .i64 0];rw[show az.heap.size=g+1 by rw[b4,cf];simp] at this;exact this
 have cm:=g4.trans e0;have Y:=d3.U cm;have ek:=hD (show((w.alloc (.cells #[.int .u8 k,.int .i64 d,.int .i64 (a:Int),.int .i64 b,.int .i64 (fn:Int)] 106)).alloc (.cells #[.string ⟨#[]⟩,.int .i64 0,.slice none 0 0,.int .i64 0] 30))=C by rw[c9,b4]);have gf:=hD Y;have gp:=hD es;have gt:=hD f0;have bt:=hD cm;have ea:=hD cf;have a5:=Y.J.I 8;simp[cT] at a5;obtain⟨kp,db⟩:=eX (sB (t.M++ [UInt8.ofNat (s.kd+1)]))
 have cv:Hd (∀W,Calls Tryz.prog 82 #[.string (sB t.M),.int .i64 ((s.kd:Int)+1)] W λe w'=>e=.returned (.tuple #[.string kp,.bool true])/\ac W w'):=hD λW=>by
  have:=sK t.M fq (s.kd+1) (Yh 1 _) l W;have e:=jS s.kd;rw[e] at this;unfold mc at this;rw[yb (Yl fp),<-db] at this;exact this
 obtain⟨f,b5⟩ :∃f:Nat,x.args=(f:Int):=ym fs
 have ej:Hd (dc p t.M s.kd ⟨k,d,a,b,fn⟩ s.rg s.left=⟨t.M++ [UInt8.ofNat (s.kd+1)],(fn:Int),(s.rg.drop a).take f,s.left / 2⟩):=hD (by
  have hh:bG p (fn:Int)=x:=by unfold bG;rw[yo,yc,bb];rfl
  unfold dc;simp only;rw[hh,b5];rfl)
 have ec:Hd (((s.rg.drop a).take f).length=f):=hD (nZ b5 G);obtain⟨pl,dl⟩:=eX p.length;have dd:=(gS bb).1;rw[<-dl] at dd;obtain⟨hs,ht,B,hN,f7,bk,_,_,_⟩:=(f8.U cm).at_ bb;rw[b5] at bk;have ei:=hD bk;have eg:=hD (aI f7 dl);have h1:=hD dd;have h0:=hD db;have go:=hD b5;have gB:=hD d3;have hL:=hD bb;have am:=hD (aI G (aI a1 (aI Z fk)));have dq:=kM l;have fr:=(aU _).trans dq;have d9:=tj l;have fb:decide ((16:Int)<=(s.kd:Int))=false:=yd d9;obtain⟨T,ch⟩:=eX s.kd;rw[<-ch] at a5 fr dq d9 fb l cv
 have a7:Hd (∀W,ac C W->ac C W/\W.cell? ⟨rb,1,none⟩=some (.string (sB t.M))/\W.cell? ⟨rb,8,none⟩=some (.int .i64 (T:Int))):=hD λW a8=>by
  have q:=(Y.U a8).J;refine⟨a8,q.I 1,?_⟩;rw[q.I 8];simp[cT,<-ch]
 have cw:=hD (aI ch l);have d5:=a7.O C oR;clear d3 f8 l fq fp bb fs G a1 Z fk b4 c9 g4 e0 cf es f0 cm Y ch db b5 f7 dl dd bk;go_enter Tryz.func42,Tryz.ntmps42;go_upto_region 1 with fail;rw[ek.O,<-ea.O];clear ek;go_upto_region 3 with fail
 go_region_held3 (λw'=>ac C w'/\w'.cell? ⟨rb,1,none⟩=some (.string (sB t.M))/\w'.cell? ⟨rb,8,none⟩=some (.int .i64 (T:Int)))
  (first|exact a7.O _ (yt ‹_›)|exact a7.O _ (aa.drew (yt ‹_›))|exact a7.O _ (aa.trans (aa.drew (yt ‹_›)) H)|exact a7.O _ (aa.trans (yt ‹_›) H)|fail)
  (first|(go_at_call 82;refine(cv.O _).mono ?_;rintro e d1 ⟨rfl,H⟩)|fail)
 have av:Hd (ac C d1):=hD (yt ‹_›);clear d5 H a7 cv fr dq d9 fb a5;have d4:=gf.O.U av.O;have gm:=hD d4;have e5:=hD (av.O.J gp.O nF);have gu:=hD (av.O.J gt.O nF);have f2:=d4.J.I 0;simp[cT,eg.O.1,<-eg.O.2] at f2;have gc:=e5.O.I 4;simp at gc;have bk:=(av.O.I (p:=⟨hs,ht+fn*3,none⟩) (block_lt_of_cell ei.O) nF).trans ei.O;obtain⟨dr,hm⟩:=ca h1.O;clear d4;go_upto_region 6 with fail
 go_quiet (fail)
 obtain⟨N,d6⟩:=eX (d1.drewN nq);rw[<-d6];have bc:ac d1 N:=by rw[d6];exact oR.drewN nq
 have em:=hD (av.O.trans bc);have e4:=hD (gm.O.U bc);have e6:=hD (bc.J e5.O nF);have e8:=hD (bc.J gu.O nF);clear d6 bc f2 gc bk dr hm;have dm:=Ee s.left;have ck:=zu7 (vC am.O.2.2.1);have dn:=(aU _).trans ck;obtain⟨A,Z⟩:=eX s.left;obtain⟨i,da⟩:=eX (A / 2);rw[<-Z] at dm ck dn;rw[<-da] at dm ck dn
 have a6:Hd (∀W,ac N W->ac N W/\W.cell? ⟨g,4,none⟩=some (.int .i64 (fn:Int))/\W.cell? ⟨rb,7,none⟩=some (.int .i64 (A:Int))):=hD λW a8=>
  ⟨a8,(a8.J e6.O nF).I 4,by rw[(e4.O.U a8).J.I 7,Z];rfl⟩
 have a4:=hD (aI Z da);clear Z da;have d5:=a6.O N oR;go_upto_region 7 with fail
 go_region_held3 (λw'=>ac N w'/\w'.cell? ⟨g,4,none⟩=some (.int .i64 (fn:Int))/\w'.cell? ⟨rb,7,none⟩=some (.int .i64 (A:Int)))
  (first|exact a6.O _ (yt ‹_›)|exact a6.O _ (aa.drew (yt ‹_›))|exact a6.O _ (aa.alloc (yt ‹_›) _)|exact a6.O _ (aa.alloc (aa.drew (yt ‹_›)) _)|fail) (fail)
 obtain⟨aE,cb⟩:=eX ((N.alloc (.cells #[.string kp,.int .i64 (fn:Int),.slice none 0 0,.int .i64 (i:Int)] 30)).drew);obtain⟨E,b6⟩:=eX N.heap.size;rw[<-cb,<-b6];have H:ac N aE:=by rw[cb];exact(oR.alloc _).drew
 have ex:ae aE E 30 #[.string kp,.int .i64 (fn:Int),.slice none 0 0,.int .i64 (i:Int)]:=by rw[cb,b6];exact bN.drew
 have bo:=hD ex;have eq:=hD (em.O.trans H);have bm:=hD (e4.O.U H);have cn:=hD (H.J e6.O nF);have e9:=hD (H.J e8.O nF);have eb:Hd (g+1<E/\w.heap.size<=E):=hD ⟨by rw[b6];exact e8.O.lt,by rw[b6];exact(bt.O.trans em.O).size⟩;clear d5 cb b6 H ex dm ck dn a6
 go_upto_if 53 with fail
 go_cut [] (λwx=>Fc w wx g E rb L p t s #[.int .u8 k,.int .i64 d,.int .i64 (a:Int),.int .i64 b,.int .i64 (fn:Int)] kp fn f i ((s.rg.drop a).take f))
 case rest=>
  obtain⟨o,P,K,b1,f6,g0,eL,f1⟩:=hcut;obtain⟨j,a9⟩:=eX wc;subst a9;have an:=hD b1;have aw:=hD K;have r:=hD f6;have cB:=hD g0;have bp:=hD eL;have bq:=hD f1;clear b1 K f6 g0 eL f1;have f3:=r.O.J.I 7;simp[cT,<-a4.O.1] at f3;have hb:=r.O.J.fz 7;have a5:=r.O.J.I 8;simp[cT,<-cw.O.1] at a5;have hc:=r.O.J.fz 8;have ha:j.cell? ⟨E,3,none⟩=some (.int .i64 (i:Int)):=an.O.I 3;obtain⟨v1,v2⟩:=nJ (am.O.2.2.1) a4.O.1 a4.O.2;have v3:=kM cw.O.2;have v4:=(aU _).trans v3;go_upto_region 10 with fail
  go_still_tail 8,(by kernel_rfl)
  change wpList _ _ _ _ _ j.drew;go_upto_region 12 with fail;obtain⟨W8,cd⟩:=eX (((j.setCell ⟨rb,7,none⟩ (.int .i64 ((A-i:Nat):Int))).setCell ⟨rb,8,none⟩ (.int .i64 ((T:Int)+1))).drew);rw[<-cd];have bf:aa (λb=>b=rb) j W8:=by rw[cd];exact((af _ _ _ _).trans (af _ _ _ _)).drew
  have Q:cu W8 rb L p t {s with left:=A-i,kd:=T+1}:=by
   have:=((r.O.left_set (A-i)).kids_set (T+1)).U ((aa.refl (λ_=>False) _).drew);rw[cd];exact this
  have al:=hD Q;have bx:=hD bf;have gs:=hD (bf.J bp.O (λe=>ae.ne_ bp.O r.O.J (by decide) e));have cq:=hD (bf.J an.O (λe=>ae.ne_ an.O r.O.J (by decide) e));have cr:=hD (bf.J bq.O (λe=>ae.ne_ bq.O r.O.J (by decide) e));obtain⟨V,X,b7⟩ :∃V X,L.iv=.slice V s.into.length X:=bR Q.into;obtain⟨v,b8⟩:=eX s.into.length;rw[<-b8] at b7;have cs:=hD b7;have ef:=hD b8;have h8:W8.cell? ⟨rb,10,none⟩=some (.slice V v X):=by rw[Q.J.I 10];simp[cT,b7]
  have hQ:=Q.J.fz 10;have hO:W8.cell? ⟨g,1,none⟩=some (.int .i64 d):=gs.O.I 1;have hR:∀e1,(W8.alloc e1).cell? ⟨rb,10,none⟩=some (.slice V v X):=λe1=>(World.cell?_alloc_lt W8 e1 ⟨rb,10,none⟩ Q.J.lt).trans h8
  have dk:W8.ownsRow 0 3 1 (.slice V v X) v (s.into.map (Value.int .i64)):=by
   have:=Q.into;rw[b7] at this;show W8.ownsRow 0 3 1 (.slice V v X) v (s.into.map (Value.int .i64));rw[b8];rw[b8] at this;exact this
  have ar:=hD dk;have fm:some rb≠(Value.slice V v X).ownBlock:=λe=>aA dk Q.J (by decide) e.symm
  clear cd bf Q b7 b8 dk f3 hb a5 hc ha v1 v2 v3 v4
  go_cut [] (λwx=>Eh w wx g E rb L p t {s with left:=A-i,kd:=T+1,into:=s.into++ [d]} kp fn f i ((s.rg.drop a).take f) o P)
  case first=>
   go_region_law (
    refine wu rfl _ _ rfl _ rfl rfl v (s.into.map (Value.int .i64)) (aa.owns (S:=λ_=>False) (by repeat (first|with_reducible exact oR|with_reducible refine aa.drew ?_|with_reducible refine aa.alloc ?_ _)) ar.O nG) (by first|exact bN|exact bN.drew) (by rw[ef.O];exact am.O.2.2.2) (λg6 w' ds dv g2=>?_);obtain⟨dw,dz,rfl⟩:=mx ds;have R:=nj (W8:=W8) dv (by repeat (first|with_reducible exact oR|with_reducible refine aa.drew ?_|with_reducible refine aa.alloc ?_ _));have fo:=rV (W8:=W8) g2 (by repeat (first|with_reducible exact oR|with_reducible refine aa.drew ?_|with_reducible refine aa.alloc ?_ _));have kb:=ae.grown (aa.J (S:=λ_=>False) (by repeat (first|with_reducible exact oR|with_reducible refine aa.drew ?_|with_reducible refine aa.alloc ?_ _)) al.O.J nF) dv fm;have g3:=kb.I 10;have hr:=kb.fz 10;simp[cT] at g3)
   all_goals (
    obtain⟨W9,d8⟩:=eX (w'.setCell ⟨rb,10,none⟩ (.slice (some ⟨dw,0,none⟩) (v+1) dz));rw[<-d8];have ai:aa (λb=>b=rb) w' W9:=by rw[d8];exact af _ _ _ _
    have c7:cu W9 rb {L with iv:=.slice (some ⟨dw,0,none⟩) (v+1) dz} p t {s with left:=A-i,kd:=T+1,into:=s.into++ [d]}:=by
     refine al.O.appended (s:={s with left:=A-i,kd:=T+1}) d (by rw[cs.O];exact R) ai (by rw[<-ef.O];exact ds) (by rw[d8];exact kb.s_ 10 _)
    have b2:=ai.J (R.J cq.O (λe=>aA ar.O cq.O (by decide) e)) (λe=>ae.ne_ cq.O al.O.J (by decide) e);have c0:=ai.J (R.J cr.O (λe=>aA ar.O cr.O (by decide) e)) (λe=>ae.ne_ cr.O al.O.J (by decide) e)
    have bv:aJ W9 (bl w W9) o ((s.rg.drop a).take f):=by
     have g1:=cB.O.by_type bx.O r.O.J (by decide)
     have ho:aJ w' (bl w j) o ((s.rg.drop a).take f):=by
      rcases di ar.O with⟨m,_⟩|⟨kb,c,m,_,_,_,_⟩
      ·exact g1.kp R (λb _ e=>by rw[m] at e;cases e)
      ·obtain⟨hY,hl⟩:=w8 ar.O m
       exact g1.by_type (q:=kb) (R.mono λb e=>by rw[m] at e;exact(yz e).symm) hl (by decide)
     exact(ho.by_type ai (R.J al.O.J (λe=>fm e.symm)) (by decide)).mo λb z=>⟨z.1,lL z.2 (lT bx.O.size (lT R.size ai.size))⟩
    have cg:∀b,(Value.slice (some ⟨dw,0,none⟩) (v+1) dz).ownBlock=some b->L.iv.ownBlock=some b\/w.heap.size<=b:=λb e=>by
     rcases fo b e with m|m
     ·exact .inl (by rw[cs.O];exact m)
     ·exact .inr (lT (lT aw.O.size bx.O.size) m)
    have d0:Hd (aa (λb=>b=rb\/L.iv.ownBlock=some b) w W9):=hD ((((aw.O.mono λ_ e=>e.elim).trans (bx.O.mono λb e=>.inl e)).trans (R.mono λb e=>.inr (by rw[cs.O];exact e))).trans (ai.mono λb e=>.inl e));clear g3 hr ds dv g2 fo;go_wp2_with fail;go_meet
    case rel=>exact⟨_,c7,b2,bv,c0,cg,d0.O⟩)
  case rest=>
   obtain⟨hn,c7,b2,bv,c0,cg,g5⟩:=hcut;have d0:=hD g5;have bn:=hD c7;have hI:=hD b2;have a3:=hD c0;have gD:=hD bv;have gN:=hD cg;obtain⟨g8,g9,ga,gb⟩:=b2.gE4;clear c7 b2 c0 bv cg g5
   go_wp2_with (refine ky rfl 30 (.tmp 4) (.tmp 97) rfl rfl rfl (xK a3.O rfl _ _ _ _ _ _) ?_)
   obtain⟨f5,b3⟩:=set4 a3.O rfl (.string kp) (.int .i64 (fn:Int)) (.slice o f P) (.int .i64 (i:Int));obtain⟨hM,fa⟩:=eX (((((wc.setCell ⟨g+1,0,none⟩ (.string kp)).setCell ⟨g+1,1,none⟩ (.int .i64 (fn:Int))).setCell ⟨g+1,2,none⟩ (.slice o f P)).setCell ⟨g+1,3,none⟩ (.int .i64 (i:Int))));rw[<-fa] at f5 b3;rw[<-fa];refine bodyPost_ret (aO Tryz.results42 rfl f5 Tryz.underlying30 rfl (by kernel_rfl)) rfl ?_;have ff:s.left / 2=i:=by rw[a4.O.2,a4.O.1]
   have hj:A-i=s.left-s.left / 2:=by rw[ff,a4.O.1]
   refine⟨o,P,hn,?_,?_,?_,gN.O,d0.O.trans' b3 (λb e=>.inr (by rw[e,ea.O];exact yX _))⟩
   ·rw[ej.O]
    unfold bX;simp only;rw[ec.O,<-h0.O,ff];rfl
   ·rw[ej.O]
    exact(gD.O.by_type b3 a3.O (by decide)).mo λb z=>⟨z.1,lL z.2 b3.size⟩
   ·rw[<-hj,<-cw.O.1]
    exact bn.O.kp b3 (λe=>ae.ne_ a3.O bn.O.J (by decide) e.symm) (λe=>ae.ne_ a3.O bn.O.rg (by decide) e.symm) (λb z e=>aA bn.O.into a3.O (by decide) (by rw[z,e]))
 case first=>
  by_cases a0:f=0
  ·have hS:decide ((0:Int)<(f:Int))=false:=by rw[a0];rfl
   have hT:¬(0:Int)<(f:Int):=by rw[a0];decide
   have ee:=hD a0;clear a0;go_wp2_with fail;go_meet
   case rel=>
    refine⟨none,0,bt.O.trans eq.O,?_,bm.O,.inl ⟨rfl,by rw[ee.O,List.take_zero]⟩,cn.O,e9.O⟩;rw[ee.O];exact bo.O
  ·have hV:(0:Int)<(f:Int):=BI a0
   have G:a+f<=s.rg.length:=sP a0 go.O am.O.1;have a1:=am.O.2.1;have ce:=bm.O.cap;have e2:=bm.O.J.I 5;simp[cT] at e2;have g7:=cn.O.I 2;have ge:=bo.O.I 2;have hE:=bo.O.fz 2;simp at g7 ge;obtain⟨rl,ba⟩:=eX s.rg.length;obtain⟨hu,b9⟩:=eX L.rc;obtain⟨c1,ab⟩:=eX L.gb;rw[<-ba,<-b9,<-ab] at e2;rw[<-ba] at G a1 ce;rw[<-b9] at ce;obtain⟨h7,c8⟩:=eX (a+f);obtain⟨hy,hz,hW,hA,hB,hC⟩:=qe G a1 ce;have hH:Hd (a+f<=rl):=hD G;have el:Hd (f<=100000):=hD (A9 G a1);have hX:h7-a=f:=by rw[c8];exact Nat.add_sub_cancel_left a f
   rw[<-c8] at hy hz hA hB hC;have hG:=hD c8;have h3:=hD (aI ba (aI b9 ab));clear ba b9 ab G a1 ce c8;go_wp2_with fail
   go_still_tail 13,(by kernel_rfl)
   change wpList _ _ _ _ _ aE.drew;obtain⟨D,d7⟩:=eX aE.drew;rw[<-d7];have ad:ac aE D:=by rw[d7];exact oR.drew
   have c6:=bm.O.U ad
   have f9:aJ D (λb=>b=c1) (some ⟨c1,a,none⟩) ((s.rg.drop a).take f):=by
    obtain⟨ba,b9,ab⟩:=h3.O;refine .inr ⟨c1,a,rfl,λ_=>⟨rfl,_,by rw[ab];exact c6.rg⟩,λk l=>⟨rfl,?_⟩⟩;have fl:k<f/\a+k<s.rg.length:=pf l;rw[ab,c6.reg fl.2];simp[yc,zN,fl.1]
   have dp:=wM f9;rw[ec.O] at dp;obtain⟨dr,fj,ft,fv,fw⟩:=lB;have br:=hD (aI fj (aI ft (aI fv fw)));have h4:=hD dp;have gn:=hD c6;have er:=hD (eq.O.trans ad);have gq:=hD (ad.J cn.O nF);have gx:=hD (ad.J e9.O nF);have gr:=hD (ad.J bo.O nF);have h2:Hd (D.ownsRow D.heap.size 2 1 (.slice none 0 0) 0 []):=hD ⟨rfl,.inl ⟨rfl,rfl⟩⟩;clear d7 ad c6 f9 dp fj ft fv fw e2 g7 ge hE
   go_wp2_with (at_builtin;refine fX _ rfl _ _ 25 rfl D.heap.size 2 dr (.int .i64 0) 1 8 Tryz.underlying25 br.O.1 br.O.2.1 br.O.2.2.1 br.O.2.2.2 rfl (by decide) _ _ _ rfl h2.O D.heap.size (some ⟨c1,a,none⟩) f (hu-a) (((s.rg.drop a).take f).map (Value.int .i64)) ?c6 h4.O ?c2 ?c3 ?c4 ?c5 ?_)
   case c2=>intro u hk;obtain⟨y,_,rfl⟩:=yL.1 hk;rfl
   case c3=>rw[yq];exact lT el.O (by unfold maxLen;decide)
   case c4=>rw[yq];exact lT (zP 8 el.O) (by decide)
   case c5=>simp
   intro g6 b0 ci fd hi;have a2:ac D b0:=(aa.refl (λ_=>False) D).grown fd (λk l=>by simp[Value.ownBlock] at l)
   obtain⟨o,P,hv,fx⟩ :∃e3 c',g6=.slice e3 f c'/\aJ b0 (bl D b0) e3 ((s.rg.drop a).take f):=by
    rw[<-List.map_drop,<-List.map_take] at ci
    rcases ci.2 with⟨m,f4⟩|⟨g,h9,cur,m,f4,d2,hP⟩
    ·exact absurd f4 a0
    ·refine⟨some ⟨g,0,none⟩,h9,m,.inr ⟨g,0,rfl,λ_=>⟨⟨by assumption,(yu.1 d2).1⟩,cur,d2⟩,λk l=>⟨⟨by assumption,(yu.1 d2).1⟩,?_⟩⟩⟩
     have Y:=ci;rw[m] at Y;have:=Y.cells (g:=g) rfl k (.int .i64 (((s.rg.drop a).take f).getD k 0)) (by rw[yJ,gG l,yc,gG l];rfl);rw[bg,yq] at this;rw[yq];exact this
   subst hv;have h5:=hD fx;have bz:=a2.J gr.O nF;obtain⟨g8,g9,ga,gb⟩:=bz.gE4;obtain⟨hd,he,hf,hg⟩:=bz.fE4;have cp:=hD bz;have hJ:=hD a2;have h6:=hD (er.O.trans a2);have hF:=hD (gn.O.U a2);have e7:=hD (a2.J gq.O nF);have gA:=hD (a2.J gx.O nF);clear ci fd hi a2 fx bz;go_wp2_with fail;obtain⟨j,a9⟩:=eX (b0.setCell ⟨E,2,none⟩ (.slice o f P));rw[<-a9];have K:aa (λb=>b=E) b0 j:=by rw[a9];exact af _ _ _ _
   have b1:ae j E 30 #[.string kp,.int .i64 (fn:Int),.slice o f P,.int .i64 (i:Int)]:=by rw[a9];exact cp.O.s_ 2 _
   have an:=hD b1;have aw:Hd (ac w j):=hD ((bt.O.trans h6.O).trans' K (λb e=>.inr (by rw[e];exact eb.O.2)));have r:Hd (cu j rb L p t s):=hD (gB.O.U aw.O);have cB:Hd (aJ j (bl w j) o ((s.rg.drop a).take f)):=hD ((h5.O.by_type K cp.O (by decide)).mo (λb z=>⟨lT (bt.O.trans er.O).size z.1,lL z.2 K.size⟩));have bp:Hd (ae j g 106 #[.int .u8 k,.int .i64 d,.int .i64 (a:Int),.int .i64 b,.int .i64 (fn:Int)]):=hD (K.J e7.O (λe=>ae.ne_ e7.O cp.O (by decide) e));have bq:Hd (ae j (g+1) 30 #[.string ⟨#[]⟩,.int .i64 0,.slice none 0 0,.int .i64 0]):=hD (K.J gA.O (λe=>by have:=eb.O.1;rw[e] at this;exact absurd this (yQ _)));clear a9 K b1 g8 g9 ga gb hd he hf hg;go_meet
   case rel=>exact⟨o,P,aw.O,an.O,r.O,cB.O,bp.O,bq.O⟩
end
def mn(x:aL):List Value:=[.int .i64 x.v,.int .i64 x.e]
def jA(w:World)(v:Value)(l:List aL):Prop:=w.ownsRow 0 35 2 v l.length (l.flatMap mn)
theorem Ea:∀(l:List aL) (i:Nat) (x:aL),l[i]?=some x->(l.flatMap mn)[i*2]?=some (.int .i64 x.v)/\(l.flatMap mn)[i*2+1]?=some (.int .i64 x.e)
 | [],i,x,c=>by simp at c
 |y :: l,0,x,c=>by
  simp at c;subst c;exact⟨rfl,rfl⟩
 |y :: l,i+1,x,c=>by
  have:=Ea l i x (by simpa using c);have f:(i+1)*2=i*2+2:=by omega
  rw[f];simp only[yZ,mn,Ye,List.nil_append,List.getElem?_cons_succ];exact⟨this.1,this.2⟩
theorem jA.at_{w:World}{v:Value}{l:List aL}(f:jA w v l){i:Nat}{x:aL}(m:l[i]?=some x):∃b c,v=.slice (some ⟨b,0,none⟩) l.length c/\w.cell? ⟨b,i*2,none⟩=some (.int .i64 x.v)/\w.cell? ⟨b,i*2+1,none⟩=some (.int .i64 x.e):=by
 have C:=(gS m).1
 rcases f.2 with⟨_,A⟩|⟨g,o,cur,y,_,B,_⟩
 ·omega
 ·subst y
  have j:=λk u z=>World.ownsRow.cells f (g:=g) rfl k u z
  obtain⟨q,r⟩:=Ea l i x m;refine⟨g,o,rfl,?_,?_⟩
  ·have:=j _ _ q
   rwa [bg,yq] at this
  ·have:=j _ _ r
   rwa [bg,yq] at this
theorem AS{w:World}{v:Value}{l:List Int}(e:w.ownsRow 0 3 1 v l.length (l.map (Value.int .i64))){i:Nat}{x:Int}(f:l[i]?=some x):∃b c,v=.slice (some ⟨b,0,none⟩) l.length c/\w.cell? ⟨b,i,none⟩=some (.int .i64 x):=by
 have r:=(gS f).1
 rcases e.2 with⟨_,o⟩|⟨g,j,cur,m,_,q,_⟩
 ·omega
 ·subst m
  have:=World.ownsRow.cells e (g:=g) rfl i (.int .i64 x) (by rw[yJ,f];rfl);rw[bg,yq] at this;exact⟨g,j,rfl,this⟩
def rI(w w':World)(rb:Nat)(L:gT)(p:List ah)(t:aj)(s:ep)(ws:List (Int×aL))(e:Ending):Prop:=
 (cD ws≠0->e=.returned (.int .i64 (cD ws))/\ac w w')/\(cD ws=0->e=.returned (.int .i64 0)/\cu w' rb L p t {s with rg:=dC ws s.rg,first:=s.kd+1}/\aa (λb=>b=rb\/b=L.gb) w w')
theorem C3{f k n c:Nat}(e:1<=f)(g:f-1+n=c)(i:k<n)(j:c<=16):wrap64 ((f:Int)-1)=((f-1:Nat):Int)/\wrap64 (((f-1:Nat):Int)+(k:Int))=((f-1+k:Nat):Int)/\f-1+k<c:=by
 refine⟨?_,?_,by omega⟩<;>unfold wrap64<;>omega
theorem qd{w:World}{rb:Nat}{L:gT}{p:List ah}{t:aj}{s:ep}(bb:Value)(rs:List aL)(ab:cu w rb L p t s)(a0:jA w bb rs)(an:1<=s.first)(b1:s.first-1+rs.length=s.into.length)(av:s.into.length<=16)(aE:s.kd<=16)
 (aw:∀d∈s.into,0<=d/\d<s.rg.length):
 Calls Tryz.prog 43 #[.pointer (some ⟨rb,0,none⟩),bb] w λf w'=>rI w w' rb L p t s (List.zip (s.into.drop (s.first-1)) rs) f:=by
 obtain⟨n,F⟩:=eX rs.length;obtain⟨ws,H⟩:=eX (List.zip (s.into.drop (s.first-1)) rs);rw[<-H];have b7:ws.length=n:=by rw[H,List.length_zip,zF,<-F];omega
 have b6:∀k x,rs[k]?=some x->∃d,s.into[s.first-1+k]?=some d/\ws[k]?=some (d,x):=λk x l=>by
  have g:=(gS l).1;have ai:s.first-1+k<s.into.length:=by omega
  refine⟨s.into[s.first-1+k],gG ai,?_⟩;rw[H,List.getElem?_zip_eq_some];refine⟨?_,l⟩;rw[zN,gG ai]
 obtain⟨A,c,bv⟩:=bR a0;subst bv;have P:=hD ab;have E:=hD a0;have a6:=hD b6;have y:=hD (aI F (aI b7 b1));have N:=hD (aI an (aI av aE));have bc:=hD aw;have a5:Hd (n<=16):=hD (by omega);rw[<-F];clear ab a0 an b1 av aE aw F H b7 b6;go_enter Tryz.func43,Tryz.ntmps43;go_wp2_with fail
 go_loopw [5] (λi wr=>∃k:Nat,k<=n/\i=.int .i64 k/\cD ws=cD (ws.drop k)/\ac w wr) (λi _=>n-(intOf i).toNat)
 case atStart=>exact⟨0,by omega,rfl,rfl,oR⟩
 case round=>
  obtain⟨k,br,rfl,r,j⟩:=hrel
  by_cases g:k<n
  ·obtain⟨x,l⟩ :∃x,rs[k]?=some x:=⟨rs[k]'(by rw[<-y.O.1];exact g),gG _⟩
   obtain⟨d,_,m⟩:=a6.O k x l;have e:jA wr (.slice A rs.length c) rs:=j.owns E.O nG;obtain⟨b,c',hv,V,T⟩:=e.at_ l
   cases hv
   have o:ws.drop k=(d,x) :: ws.drop (k+1):=by
    have b0:=(gS m).1;rw[yM b0]
    congr 1
    rw[gG b0] at m;exact yz m
   rw[o] at r;obtain⟨bx,bz⟩:=ca g;have a2:=cX g (lT a5.O (by decide));have bt:=(aU _).trans a2;have B:=hD j
   by_cases z:x.e=0
   ·have C:cD ws=cD (ws.drop (k+1)):=by rw[r];show(if x.e≠0 then x.e else cD (ws.drop (k+1)))=_;rw[yb (by rw[z];simp)]
    have u:=hD C;rw[z] at T;clear r C o m e V j z l;go_wp2_with fail;go_roundw
    case rel=>exact⟨k+1,g,rfl,u.O,B.O⟩
    case measure=>exact aB rfl g
   ·have C:cD ws=x.e:=by rw[r];show(if x.e≠0 then x.e else cD (ws.drop (k+1)))=_;rw[yf z]
    have u:=hD C;have c5:(x.e==0)=false:=bF z;have bk:=hD z;clear r C o m e V j;go_wp2_with fail;go_ret;refine⟨λ_=>⟨by rw[u.O];rfl,B.O⟩,λW=>absurd (u.O.symm.trans W) bk.O⟩
  ·have bq:¬(k:Int)<(n:Int):=by omega
   have D:k=n:=by omega
   have ad:cD ws=0:=by rw[r,D,<-y.O.2.1,zq];rfl
   have u:=hD ad;have B:=hD j;obtain⟨cf,a1⟩:=eX wr;subst a1;clear r j ad D;go_wp2_with fail
   go_loopw [6] (λi wr=>∃k:Nat,k<=n/\i=.int .i64 k/\cu wr rb L p t {s with rg:=dC (ws.take k) s.rg}/\aa (λb=>b=rb\/b=L.gb) w wr) (λi _=>n-(intOf i).toNat)
   case atStart=>exact⟨0,by omega,rfl,P.O.U B.O,B.O.mono λ_ f=>f.elim⟩
   case round=>
    obtain⟨k,br,rfl,e,j⟩:=hrel
    by_cases g:k<n
    ·obtain⟨x,l⟩ :∃x,rs[k]?=some x:=⟨rs[k]'(by rw[<-y.O.1];exact g),gG _⟩
     obtain⟨d,X,m⟩:=a6.O k x l;have b5:jA wr (.slice A rs.length c) rs:=j.owns E.O (λb am f=>f.elim (λf=>aA E.O P.O.J (by decide) (by rw[am,f])) (λf=>aA E.O P.O.rg (by decide) (by rw[am,f])));obtain⟨b,c',hv,V,T⟩:=b5.at_ l
     cases hv
     obtain⟨c6,c7,az,a9⟩:=AS e.into X;have bp:=bc.O d (yh X);obtain⟨d,rfl⟩ :∃bn:Nat,d=bn:=⟨d.toNat,by omega⟩
     have o:d<s.rg.length:=by omega
     obtain⟨rl,G⟩:=eX s.rg.length;have Z:(dC (ws.take k) s.rg).length=rl:=by rw[fR,G]
     have bm:=e.J.I 5;have S:=e.J.I 9;have a7:=e.J.I 10;simp[cT,Z,az] at bm S a7;have c1:=e.reg (k:=d) (by show d<(dC (ws.take k) s.rg).length;rw[Z,G];exact o);have c3:=e.rg.fz d;obtain⟨b9,a3,K⟩:=C3 N.O.1 y.O.2.2 (by rw[<-y.O.1];exact g) N.O.2.1;have c0:=(aU _).trans b9;have ba:=(aU _).trans a3;obtain⟨ce,b2⟩:=eX s.into.length;rw[<-b2] at a7 K;obtain⟨bo,ar⟩:=eX (s.first-1);rw[<-ar] at b9 c0 a3 ba K a9;obtain⟨q,b4⟩:=eX (bo+k);rw[<-b4] at a3 ba K a9;obtain⟨bx,bz⟩:=ca g;obtain⟨c8,c9⟩:=ca K;obtain⟨cb,cd⟩:=ca (by rw[G];exact o:d<rl);have a2:=cX g (lT a5.O (by decide));have bt:=(aU _).trans a2
     have b3:dC (ws.take (k+1)) s.rg=(dC (ws.take k) s.rg).set d x.v:=by
      rw[yO,m];show dC (ws.take k++ [((d:Int),x)]) s.rg=_;rw[oV];unfold jq;rw[yo]
     have bf:=hD b3;have R:=hD e;have Q:=hD j;generalize (dC (ws.take k) s.rg).getD d 0=cg at*;clear e j b5 m X l T az b3 Z bp o G b2 ar b4;go_wp2_with fail
     go_still_tail 22,(by kernel_rfl)
     change wpList _ _ _ _ _ wr.drew;go_wp2_with fail;refine⟨⟨k+1,g,rfl,?_,(Q.O.trans ((af _ _ _ _).mono λb f=>.inr f)).drew⟩,aB rfl g⟩;have:=(R.O.reg_set d x.v).U oR.drew;rw[bf.O];exact this
    ·have bq:¬(k:Int)<(n:Int):=by omega
     have D:k=n:=by omega
     have al:ws.take k=ws:=by rw[D,<-y.O.2.1,zr]
     rw[al] at e;have a8:=e.J.I 8;simp[cT] at a8;have S:=e.J.I 9;simp[cT] at S;have c2:=e.J.fz 9;obtain⟨b8,Y⟩:=eX s.kd;rw[<-Y] at a8;have a1:=cX (k:=b8) (n:=100) (by have:=N.O.2.2;omega) (by decide);have c4:=(aU _).trans a1;have R:=hD e;have Q:=hD j;have a4:=hD Y;clear e j al D Y;go_wp2_with fail;go_ret;refine⟨λW=>absurd u.O W,λ_=>⟨rfl,?_,Q.O.trans ((af _ _ _ _).mono λb f=>.inl f)⟩⟩;have:=R.O.first_set (b8+1);rw[a4.O] at this;rw[a4.O];exact this
end
section
def ep.ws(s:ep)(rs:List aL):List (Int×aL):=List.zip (s.into.drop (s.first-1)) rs
structure gP(p:List ah)(t:aj)(s:ep)(rs:List aL)(L:List aj):Prop where
 run:∃rest,cM p t.M t.fn s.left s.rg s.at_ s.kd (s.ws rs)=(bw p t,rest)/\aR p t=L++rest
 kl:s.kd=L.length
 il:s.into.length=s.kd
 fl:s.first-1+rs.length=s.kd
 f1:1<=s.first
 k16:s.kd<=16
 b:F4 p t s
 ii:∀d∈s.into,0<=d/\d<s.rg.length
 lf:s.left<=t.fuel
 rv:∀r∈rs,dy r.v
theorem gP.start{p:List ah}{t:aj}(f:gH p)(c:cC p t):gP p t ⟨ij p t.fn t.args,0,t.fuel,0,1,[]⟩ [] []:=by
 have j:=f.fn c.fn0 c.fn1;have e:=pq f c;refine⟨⟨aR p t,rfl,rfl⟩,rfl,rfl,rfl,lR,yx _,⟨yE _,?_,e.rl,e.ri,c.fl⟩,(λd g=>by cases g),lR,(λr i=>by cases i)⟩;have:=zK.2 j.o0;show(0:Int)<_;omega
section
variable {p:List ah}{t:aj}{s:ep}{rs:List aL}{L:List aj}
theorem gP.op(c:gP p t s rs L)(f:gH p)(e:cC p t):tv p (bG p t.fn) (bB p t.fn s.at_):=(f.fn e.fn0 e.fn1).ops _ (kF c.b.at0 c.b.at1).1
theorem gP.next(c:gP p t s rs L)(j:gH p)(e:cC p t)(f:(bB p t.fn s.at_).k≠10)(g:(bB p t.fn s.at_).k≠14):s.at_+1<(bG p t.fn).ops.length:=by
 have l:=kF (p:=p) (i:=t.fn) c.b.at0 c.b.at1;have:=(j.fn e.fn0 e.fn1).next l.2 f g;have:=c.b.at0;omega
theorem FP(e:gP p t s rs L):∀c∈s.ws rs,dy c.2.v:=λc f=>e.rv _ (List.of_mem_zip f).2
theorem gP.over0(e:gP p t s rs L)(g:s.left=0):bw p t=⟨0,130⟩/\aR p t=L:=by
 obtain⟨i,c,f⟩:=e.run;rw[g] at c;unfold cM at c;simp only[yP] at c;exact⟨c.1.symm,by rw[f,<-c.2,zA]⟩
theorem gP.plain(c:gP p t s rs L)(m:gH p)(o:cC p t)(C:s.left≠0)(g:¬((bB p t.fn s.at_).k=12\/(bB p t.fn s.at_).k=13\/(bB p t.fn s.at_).k=14)):
 match dF (bB p t.fn s.at_) s.rg (s.at_+1) with
 |none=>bw p t=⟨0,131⟩/\aR p t=L
 |some x=>gP p t {s with left:=s.left-1,rg:=x.1,at_:=x.2} rs L:=by
 obtain⟨B,f,j⟩:=c.run;obtain⟨l,r⟩ :∃l,s.left=l+1:=⟨s.left-1,by omega⟩
 rw[r] at f;unfold cM at f;simp only at f;rw[yb (λe=>g (.inl e)),yb (λe=>g (.inr (.inl e))),yb (λe=>g (.inr (.inr e)))] at f
 cases hp:dF (bB p t.fn s.at_) s.rg (s.at_+1) with
 |none=>
  rw[hp] at f;simp only[yP] at f;exact⟨f.1.symm,by rw[j,<-f.2,zA]⟩
 |some x=>
  rw[hp] at f;have u:=c.op m o;obtain⟨v,z,A⟩:=oT u c.b.ri hp
  have q:0<=x.2/\x.2<(bG p t.fn).ops.length:=by
   rcases A with⟨e,i⟩|⟨e,i⟩
   ·rw[e]
    have:=c.next m o i (λe=>g (.inr (.inr e)));have:=c.b.at0;omega
   ·rw[e]
    exact u.go i
  refine⟨⟨B,?_,j⟩,c.kl,c.il,c.fl,c.f1,c.k16,⟨q.1,q.2,?_,z,?_⟩,?_,?_,c.rv⟩
  ·rw[r]
   exact f
  ·show((x.1.length:Nat):Int)=_
   rw[v];exact c.b.rl
  ·have:=c.b.lf
   show s.left-1<=_;omega
  ·intro d y
   have:=c.ii d y;show 0<=d/\d<(x.1.length:Int);rw[v];exact this
  ·have:=c.lf
   show s.left-1<=_;omega
theorem gP.fork(c:gP p t s rs L)(i:gH p)(m:cC p t)(N:s.left≠0)(q:(bB p t.fn s.at_).k=12):
 (s.kd=16->bw p t=⟨0,132⟩/\aR p t=L)/\(s.kd<16->t.M.length=12->bw p t=⟨0,133⟩/\aR p t=L)/\
 (s.kd<16->t.M.length<12->cC p (dc p t.M s.kd (bB p t.fn s.at_) s.rg (s.left-1))/\(s.left-1) / 2<t.fuel/\
  gP p t {s with left:=(s.left-1)-(s.left-1) / 2,at_:=s.at_+1,kd:=s.kd+1,into:=s.into++ [(bB p t.fn s.at_).d]} (rs++ [bw p (dc p t.M s.kd (bB p t.fn s.at_) s.rg (s.left-1))]) (L++ [dc p t.M s.kd (bB p t.fn s.at_) s.rg (s.left-1)])):=by
 obtain⟨Q,e,g⟩:=c.run;obtain⟨l,D⟩ :∃l,s.left=l+1:=⟨s.left-1,by omega⟩
 have E:s.left-1=l:=by omega
 rw[D] at e;unfold cM at e;simp only at e;rw[yf q] at e;rw[E];refine⟨λf=>?_,λz A=>?_,λz A=>?_⟩
 ·rw[yf (by omega)] at e
  simp only[yP] at e;exact⟨e.1.symm,by rw[g,<-e.2,zA]⟩
 ·rw[yb (by omega),yf (by omega)] at e
  simp only[yP] at e;exact⟨e.1.symm,by rw[g,<-e.2,zA]⟩
 ·rw[yb (by omega),yb (by omega)] at e
  obtain⟨k,u⟩:=eX (dc p t.M s.kd (bB p t.fn s.at_) s.rg l);rw[<-u] at e ⊢;have C:k.fuel=l / 2:=by rw[u];rfl
  simp only[yP] at e;obtain⟨o,j⟩:=e;have x:k∈aR p t:=by rw[g,<-j];simp
  have H:(cM p k.M k.fn (l / 2) (ij p k.fn k.args) 0 0 []).1=bw p k:=by rw[<-C];rfl
  rw[H] at o j;have P:=c.lf;have v:=lF i m;have y:=c.op i m;refine⟨v.2 k x,by omega,⟨⟨(cM p t.M t.fn (l-l / 2) s.rg (s.at_+1) (s.kd+1) (s.ws rs++ [((bB p t.fn s.at_).d,bw p k)])).2,?_,?_⟩,?_,?_,?_,c.f1,?_,⟨?_,?_,c.b.rl,c.b.ri,?_⟩,?_,?_,?_⟩⟩
  ·have K:ep.ws {s with left:=l-l / 2,at_:=s.at_+1,kd:=s.kd+1,into:=s.into++ [(bB p t.fn s.at_).d]} (rs++ [bw p k])=s.ws rs++ [((bB p t.fn s.at_).d,bw p k)]:=by
    unfold ep.ws;have F:s.first-1<=s.into.length:=by rw[c.il];have:=c.fl;omega
    show List.zip ((s.into++ [_]).drop (s.first-1)) (rs++ [bw p k])=_;rw[List.drop_append_of_le_length F,List.zip_append (by rw[zF,c.il];have:=c.fl;omega)];rfl
   show cM p t.M t.fn (l-l / 2) s.rg (s.at_+1) (s.kd+1) _=_;rw[K,<-o]
  ·rw[g,<-j,yY]
   rfl
  ·show s.kd+1=_
   rw[yk,c.kl];rfl
  ·show(s.into++ [_]).length=s.kd+1
   rw[yk,c.il];rfl
  ·show s.first-1+(rs++ [_]).length=s.kd+1
   rw[yk];have:=c.fl;simp only[zo,List.length_nil];omega
  ·show s.kd+1<=16
   omega
  ·show 0<=s.at_+1
   have:=c.b.at0;omega
  ·exact c.next i m (by omega) (by omega)
  ·show l-l / 2<=65536
   have:=c.b.lf;omega
  ·intro d B
   show 0<=d/\d<(s.rg.length:Int)
   rcases yH.1 B with f|f
   ·exact c.ii d f
   ·have:d=(bB p t.fn s.at_).d:=by simpa using f
    rw[this,c.b.rl];exact⟨y.d.1,y.dr (.inr q)⟩
  ·show l-l / 2<=t.fuel
   omega
  ·intro r G
   rcases yH.1 G with f|f
   ·exact c.rv r f
   ·have:r=bw p k:=by simpa using f
    rw[this];exact(lF i (v.2 k x)).1.1
theorem gP.join(c:gP p t s rs L)(j:gH p)(m:cC p t)(y:s.left≠0)(q:(bB p t.fn s.at_).k=13):
 (cD (s.ws rs)≠0->bw p t=⟨0,cD (s.ws rs)⟩/\aR p t=L)/\
 (cD (s.ws rs)=0->gP p t {s with left:=s.left-1,at_:=s.at_+1,rg:=dC (s.ws rs) s.rg,first:=s.kd+1} [] L):=by
 obtain⟨x,e,g⟩:=c.run;obtain⟨l,i⟩ :∃l,s.left=l+1:=⟨s.left-1,by omega⟩
 rw[i] at e;unfold cM at e;simp only at e;rw[yb (by omega),yf q] at e;refine⟨λf=>?_,λf=>?_⟩
 ·rw[yf f] at e
  simp only[yP] at e;exact⟨e.1.symm,by rw[g,<-e.2,zA]⟩
 ·rw[yb (by rw[f];simp)] at e
  refine⟨⟨x,?_,g⟩,c.kl,c.il,?_,?_,c.k16,⟨?_,?_,?_,?_,?_⟩,?_,?_,(λr u=>by cases u)⟩
  ·rw[i]
   have v:ep.ws {s with left:=l+1-1,at_:=s.at_+1,rg:=dC (s.ws rs) s.rg,first:=s.kd+1} [] = []:=by
    unfold ep.ws;simp
   rw[v];exact e
  ·show s.kd+1-1+0=s.kd
   omega
  ·show 1<=s.kd+1
   omega
  ·show 0<=s.at_+1
   have:=c.b.at0;omega
  ·exact c.next j m (by omega) (by omega)
  ·show(((dC (s.ws rs) s.rg).length:Nat):Int)=_
   rw[fR];exact c.b.rl
  ·exact lC _ _ (FP c) c.b.ri
  ·show s.left-1<=65536
   have:=c.b.lf;omega
  ·intro d o
   show 0<=d/\d<((dC (s.ws rs) s.rg).length:Int);rw[fR];exact c.ii d o
  ·show s.left-1<=t.fuel
   have:=c.lf;omega
theorem gP.ret(i:gP p t s rs L)(o:s.left≠0)(j:(bB p t.fn s.at_).k=14):
 (cD (s.ws rs)≠0->bw p t=⟨0,cD (s.ws rs)⟩)/\(cD (s.ws rs)=0->bw p t=⟨ct (dC (s.ws rs) s.rg) (bB p t.fn s.at_).a,0⟩)/\aR p t=L:=by
 obtain⟨q,c,g⟩:=i.run;obtain⟨l,m⟩ :∃l,s.left=l+1:=⟨s.left-1,by omega⟩
 rw[m] at c;unfold cM at c;simp only at c;rw[yb (by omega),yb (by omega),yf j] at c
 by_cases e:cD (s.ws rs)≠0
 ·rw[yf e] at c
  simp only[yP] at c;exact⟨λ_=>c.1.symm,λf=>absurd f e,by rw[g,<-c.2,zA]⟩
 ·rw[yb e] at c
  simp only[yP] at c;exact⟨λf=>absurd f e,λ_=>c.1.symm,by rw[g,<-c.2,zA]⟩
end
open Go.RowKit Go.Maps
theorem wB(p:List ah)(A an:Option Addr)(c f b0:Nat)(F:Nat->Prop)(w:World)(R:cW w F A p)(a4:∀b,F b->b<w.heap.size)(a6:p.length<=1000)(ab:∀x∈p,lI x):
 Calls Tryz.prog 153 #[aM p A c,.slice an f b0] w λg w'=>g=.returned (.int .i64 (fV p f))/\ac w w':=by
 obtain⟨n,E⟩:=eX p.length;obtain⟨j,z⟩:=eX (w.alloc (.cells #[.slice A n c] 24));have r:ac w j:=by rw[z];exact(aa.refl _ w).alloc _
 obtain⟨av,S⟩:=eX w.heap.size;have Q:ae j av 24 #[.slice A n c]:=by rw[z,S];exact bN
 have X:=Q.I 0;simp at X;obtain⟨e,C⟩:=eX (bE p);obtain⟨q,T⟩:=eX (fV p f);rw[<-T]
 have H:Hd (Calls Tryz.prog 108 #[.agg #[.slice A n c]] j λg w'=>∃fn G,g=.returned (.agg #[.int .i64 e,.int .i64 fn,.int .i64 G])/\ac j w'):=hD (by
  have:=ue p A c F j (R.U r) (λb az=>lL (a4 b az) r.size) a6 ab;unfold aM D4 aV at this;rw[<-E,<-C] at this;exact this)
 have v:Hd (q=if e≠0 then e else if (f:Int)≠(bG p 0).args then 114 else 0):=hD (by rw[T,C];rfl);have K:Hd (e=0->p≠[]):=hD λg=>tI (by rw[<-C];exact g)
 have ad:=hD (R.U r);have am:=hD Q;have al:=hD r;have a0:=hD E;have ai:=hD S;have a1:=hD z.symm;unfold aM;rw[<-E];clear R a4 a6 ab E z r S Q C T;go_enter Tryz.func153,Tryz.ntmps153;go_upto_region 1 with fail;rw[a1.O,<-ai.O];clear a1;go_wp2_with fail;refine H.O.mono ?_;rintro g a2 ⟨fn,G,rfl,W⟩;obtain⟨a3,o⟩:=eX (a2.alloc (.cells #[.int .i64 e,.int .i64 fn,.int .i64 G] 220));obtain⟨ar,D⟩:=eX a2.heap.size;have u:ac j a3:=by rw[o];exact W.trans (oR.alloc _)
 have P:ae a3 ar 220 #[.int .i64 e,.int .i64 fn,.int .i64 G]:=by rw[o,D];exact bN
 have N:=hD (al.O.trans u);have X:=(u.J am.O nF).I 0;simp at X;have b2:=P.I 0;simp at b2;have y:=hD o.symm;have Y:=hD D
 by_cases l:e=0
 ·have a8:=K.O l
  subst l;have a7:0<n:=by rw[a0.O];exact zK.2 a8
  obtain⟨x,V⟩ :∃x,p[0]?=some x:=⟨p[0]'(by rw[<-a0.O];exact a7),gG _⟩
  have a5:bG p 0=x:=by unfold bG;rw[yc,show(0:Int).toNat=0 from rfl,V];rfl
  obtain⟨b,b7,B,b3,aw,b1,_,_,_⟩:=((ad.O.U u).at_ V)
  subst aw;rw[Nat.zero_mul,yW] at b1;have b6:(0:Int)<(n:Int):=by omega
  have Z:Hd (q=if (f:Int)≠x.args then 114 else 0):=hD (by rw[v.O,yb (by simp),a5]);clear a8 V a5 a7 W u P o D H v K;go_upto_region 2 with fail;rw[y.O,<-Y.O];clear y
  by_cases i:(f:Int)=x.args
  ·have a9:((f:Int)==x.args)=true:=beq_iff_eq.2 i
   have aE:((f:Int) !=x.args)=false:=by simp[bne,a9]
   have m:Hd (q=0):=hD (by rw[Z.O,yb (λg=>g i)]);clear i;go_wp2_with fail;go_ret;exact⟨by rw[m.O];rfl,N.O⟩
  ·have a9:((f:Int)==x.args)=false:=bF i
   have aE:((f:Int) !=x.args)=true:=bT i;have m:Hd (q=114):=hD (by rw[Z.O,yf i]);clear i;go_wp2_with fail;go_ret;exact⟨by rw[m.O];rfl,N.O⟩
 ·have b4:(e==0)=false:=bF l
  have b5:(e !=0)=true:=bT l;have m:Hd (q=e):=hD (by rw[v.O,yf l]);clear l W u P o D H v K;go_upto_region 2 with fail;rw[y.O,<-Y.O];clear y;go_wp2_with fail;go_ret;exact⟨by rw[m.O];rfl,N.O⟩
theorem Ay(p:List ah)(A D:Option Addr)(c N:Nat)(F a6:Nat->Prop)(g:List Int)(e:Int)(w:World)(b3:cW w F A p)(b4:∀b,F b->b<w.heap.size)(b8:p.length<=1000)(b9:∀x∈p,lI x)(b5:aJ w a6 D g)(b7:g.length<=1000):
 Calls Tryz.prog 116 #[aM p A c,.slice D g.length N,.int .i64 e] w λm w'=>qK w w' p g e m:=by
 obtain⟨n,W⟩:=eX p.length;obtain⟨q,a3⟩:=eX g.length;obtain⟨G,H⟩:=eX (w.alloc (.cells #[.slice A n c] 24));obtain⟨y,T⟩:=eX (G.alloc (.cells #[.string ⟨#[]⟩,.int .i64 0,.slice none 0 0,.int .i64 0] 30));have ba:ac w G:=by rw[H];exact(aa.refl _ w).alloc _
 have a4:ac G y:=by rw[T];exact oR.alloc _
 obtain⟨f,V⟩:=eX w.heap.size;have an:ae y f 24 #[.slice A n c]:=a4.J (by rw[H,V];exact bN) nF;have am:ae y (f+1) 30 #[.string ⟨#[]⟩,.int .i64 0,.slice none 0 0,.int .i64 0]:=by rw[T];have:=ae.new G 30 #[.string ⟨#[]⟩,.int .i64 0,.slice none 0 0,.int .i64 0];rw[show G.heap.size=f+1 by rw[H,V];simp] at this;exact this
 have Q:=ba.trans a4;obtain⟨P,a1⟩:=eX (fV p q)
 have ai:Hd (Calls Tryz.prog 153 #[.agg #[.slice A n c],.slice D q N] y λm w'=>m=.returned (.int .i64 P)/\ac y w'):=hD (by
  have:=wB p A D c q N F y (b3.U Q) (λb r=>lL (b4 b r) Q.size) b8 b9;unfold aM at this;rw[<-W,<-a1] at this;exact this)
 have a8:=hD am;have bm:=hD Q;have ad:=hD (b5.kp Q nG);have v:=hD (aI W (aI a3 (aI a1 b7)));have Y:=hD V;have al:=hD (show((w.alloc (.cells #[.slice A n c] 24)).alloc (.cells #[.string ⟨#[]⟩,.int .i64 0,.slice none 0 0,.int .i64 0] 30))=y by rw[T,H]);have bb:=an.I 0;simp at bb;unfold aM;rw[<-W,<-a3];clear b3 b4 b8 b9 b5 b7 W a3 H T ba a4 V an am Q a1;go_enter Tryz.func116,Tryz.ntmps116;go_upto_region 1 with fail;rw[al.O,<-Y.O];clear al;go_wp2_with fail;refine ai.O.mono ?_;rintro m z ⟨rfl,X⟩;have a0:=hD (bm.O.trans X);have o:=X.J a8.O nF;obtain⟨ar,av,aw,az⟩:=o.gE4;obtain⟨aE,b0,b1,b2⟩:=o.fE4;have a7:=hD o;have bk:=hD (ad.O.kp X nG);clear X o ai bb ad a8;have R:Hd (ae ((((z.setCell ⟨f+1,0,none⟩ (.string ⟨#[]⟩)).setCell ⟨f+1,1,none⟩ (.int .i64 0)).setCell ⟨f+1,2,none⟩ (.slice none 0 0)).setCell ⟨f+1,3,none⟩ (.int .i64 0)) (f+1) 30 #[.string ⟨#[]⟩,.int .i64 0,.slice none 0 0,.int .i64 0]):=hD ((((a7.O.s_ 0 _).s_ 1 _).s_ 2 _).s_ 3 _);have S:Hd (ac w ((((z.setCell ⟨f+1,0,none⟩ (.string ⟨#[]⟩)).setCell ⟨f+1,1,none⟩ (.int .i64 0)).setCell ⟨f+1,2,none⟩ (.slice none 0 0)).setCell ⟨f+1,3,none⟩ (.int .i64 0))):=hD (a0.O.trans' (aD (aD (aD (af z (f+1) _ _)))) (λb r=>.inr (by rw[r,Y.O];exact yX _)))
 by_cases K:P=0
 ·subst K
  have Z:Hd (dZ p g.length e=if e<0\/65536<e then 2 else 0):=hD (by unfold dZ;rw[<-v.O.2.1,<-v.O.2.2.1,yb (by simp)])
  by_cases B:e<0
  ·have bo:decide (e<0)=true:=yg B
   have j:Hd (dZ p g.length e=2):=hD (by rw[Z.O,yf (.inl B)]);clear B;go_wp2_with fail;refine bodyPost_ret (aO Tryz.results116 rfl (cs:=#[.string ⟨#[]⟩,.int .i64 0,.slice none 0 0,.int .i64 0]) R.O Tryz.underlying30 rfl (by kernel_rfl)) rfl ?_;refine⟨S.O,λ_=>by rw[j.O];rfl,λl=>?_⟩;rw[j.O] at l
   cases l
  have bo:decide (e<0)=false:=yd B
  by_cases E:65536<e
  ·have bp:decide (65536<e)=true:=yg E
   have j:Hd (dZ p g.length e=2):=hD (by rw[Z.O,yf (.inr E)]);clear B E;go_wp2_with fail;refine bodyPost_ret (aO Tryz.results116 rfl (cs:=#[.string ⟨#[]⟩,.int .i64 0,.slice none 0 0,.int .i64 0]) R.O Tryz.underlying30 rfl (by kernel_rfl)) rfl ?_;refine⟨S.O,λ_=>by rw[j.O];rfl,λl=>?_⟩;rw[j.O] at l
   cases l
  have bp:decide (65536<e)=false:=yd E;have j:Hd (dZ p g.length e=0):=hD (by rw[Z.O,yb (λm=>m.elim B E)]);have bc:Hd (e=((e.toNat:Nat):Int)):=hD (by omega);clear B E R S
  have ab:Hd (Calls Tryz.prog 113 #[.slice D q N] z λm w'=>∃C c',m=.returned (.slice C q c')/\aJ w' (λb=>z.heap.size<=b/\b<w'.heap.size) C g/\ac z w'):=hD (by
   rw[v.O.2.1];exact lm D g N a6 z bk.O (lT v.O.2.2.2 (by decide)))
  go_wp2_with fail;refine ab.O.mono ?_;rintro m br ⟨C,c',rfl,b6,a2⟩;have o:=a2.J a7.O nF;clear ar av aw az aE b0 b1 b2;obtain⟨ar,av,aw,az⟩:=o.gE4;obtain⟨aE,b0,b1,b2⟩:=o.fE4;have bn:=hD a2;have bf:=hD b6;have a9:=hD o;clear a2 b6 o ab;go_wp2_with fail;refine bodyPost_ret (aO Tryz.results116 rfl (cs:=#[.string ⟨#[]⟩,.int .i64 0,.slice C q c',.int .i64 e]) ((((a9.O.s_ 0 _).s_ 1 _).s_ 2 _).s_ 3 _) Tryz.underlying30 rfl (by kernel_rfl)) rfl ?_;have a5:=aD (i:=3) (u:=.int .i64 e) (aD (i:=2) (u:=.slice C q c') (aD (i:=1) (u:=.int .i64 0) (af br (f+1) 0 (.string ⟨#[]⟩))));have bq:=(a0.O.trans bn.O).trans' a5 (λb r=>.inr (by rw[r,Y.O];exact yX _));refine⟨bq,λl=>absurd j.O l,λ_=>⟨C,c',?_,?_⟩⟩
  ·unfold bX
   rw[<-v.O.2.1,<-bc.O];rfl
  ·exact(bf.O.by_type a5 a9.O (by decide)).mo λb r=>⟨lT a0.O.size r.1,lL r.2 a5.size⟩
 ·have bt:(P==0)=false:=bF K
  have bv:(P !=0)=true:=bT K;have j:Hd (dZ p g.length e=P):=hD (by unfold dZ;rw[<-v.O.2.1,<-v.O.2.2.1,yf K]);go_wp2_with fail;refine bodyPost_ret (aO Tryz.results116 rfl (cs:=#[.string ⟨#[]⟩,.int .i64 0,.slice none 0 0,.int .i64 0]) R.O Tryz.underlying30 rfl (by kernel_rfl)) rfl ?_;refine⟨S.O,λ_=>by rw[j.O];rfl,λl=>?_⟩;rw[j.O] at l;exact absurd l K
end
end Go.Proofs.YtmdocplknceilaaGreat
