import Derived.Test.YtmdocplknceilaaGreatRWAQ
import Derived.StillTailTactics
set_option linter.all false
set_option maxRecDepth 100000
set_option maxHeartbeats 1000000
namespace Go.Proofs.YtmdocplknceilaaGreat
section
open Go.RowKit Go.Maps
section
variable {w w':World}{F F':Nat->Prop}{tb mb:Nat}{most:Int}{rows:Nm->Option aG}{cnt:Nat}{rp:Nm->Nat}{n:Nm}{r r':aG}
theorem CN(V:bS w F tb mb most rows cnt rp)(W:dE n)(X:rows n=none):
 Calls Tryz.prog 51 #[.pointer (some ⟨tb,0,none⟩),aW n] w λD w'=>D=.returned (.tuple #[.agg jp,.bool false])/\ac w w':=by
 obtain⟨c,d⟩:=eX ((w.alloc (.cells #[.int .u64 n.job,.string (sB n.M)] 58)).alloc (.cells jp 60));have z:ac w c:=by rw[d];exact((aa.refl _ w).alloc _).alloc _
 have v:=V.kp z nG;have u:ae c w.heap.size 58 #[.int .u64 n.job,.string (sB n.M)]:=by rw[d];exact bN.alloc _
 have a:ae c (w.heap.size+1) 60 jp:=by
  rw[d,<-jy w (.cells #[.int .u64 n.job,.string (sB n.M)] 58)];exact bN
 have a1:c.cell? ⟨tb,1,none⟩=some (.map (some mb)):=v.J.I 1
 have a2:∀k,(Instr.lookup 196 (.map (some mb)) (.agg #[.int .u64 n.job,.string (sB n.M)]) false).run Tryz.prog (c.drewN k)=.ok (.pointer none) (c.drewN k):=λk=>by
  have:=v.look W (c.drewN k) rfl;rw[X] at this;exact this
 obtain⟨g,y⟩:=eX w.heap.size;rw[<-y] at u a;obtain⟨a3,a4⟩:=u.gE2;have e:=a.I 0;have f:=a.I 1;have i:=a.I 2;have j:=a.I 3;have l:=a.I 4;have m:=a.I 5;have o:=a.I 6;have p:=a.I 7;have q:=a.I 8;have s:=a.I 9;simp[jp] at e f i j l m o p q s;obtain⟨E,G,H,K,L,N,P,Q,R,S⟩:=a.fE10;unfold jp at d;have t:=hD a;have Y:=hD z;have B:=hD y;have C:=hD d.symm;clear V v u a z X W y d;unfold aW fe;go_enter Tryz.func51,Tryz.ntmps51;go_upto_region 1 with fail;rw[C.O,<-B.O];clear C;go_wp2_with fail
 go_quiet (fail)
 clear a2 a3 a4 a1;obtain⟨a0,x⟩:=eX (c.drewN nq);rw[<-x];have A:ac c a0:=by rw[x];exact oR.drewN nq
 have a:=A.J t.O nF;clear e f i j l m o p q s E G H K L N P Q R S;have e:=a.I 0;have f:=a.I 1;have i:=a.I 2;have j:=a.I 3;have l:=a.I 4;have m:=a.I 5;have o:=a.I 6;have p:=a.I 7;have q:=a.I 8;have s:=a.I 9;simp[jp] at e f i j l m o p q s;obtain⟨E,G,H,K,L,N,P,Q,R,S⟩:=a.fE10;have t:=hD a;have Z:=hD A;clear a A x;go_wp2_with fail;refine bodyPost_ret (aO Tryz.results51 rfl (cs:=jp) ?hb Tryz.underlying60 rfl (by kernel_rfl)) rfl ?_
 case hb=>
  unfold jp;exact tg t.O
 refine⟨rfl,(Y.O.trans Z.O).trans' (T:=λb=>b=g+1\/b=g+1) ?_ (λb D=>.inr (by have:=B.O;omega))⟩
 repeat (first|with_reducible apply oO|with_reducible exact oR)
theorem Eu(Y:bS w F tb mb most rows cnt rp)(a0:dE n)(D:rows n=some r):
 Calls Tryz.prog 51 #[.pointer (some ⟨tb,0,none⟩),aW n] w λj w'=>∃i c',j=.returned (.tuple #[.agg (jo n r i c'),.bool true])/\aJ w' (λb=>w.heap.size<=b/\b<w'.heap.size) i r.tk.args/\ac w w':=by
 obtain⟨d,f⟩:=eX ((w.alloc (.cells #[.int .u64 n.job,.string (sB n.M)] 58)).alloc (.cells jp 60));have H:ac w d:=by rw[f];exact((aa.refl _ w).alloc _).alloc _
 have t:=Y.kp H nG;have s:ae d w.heap.size 58 #[.int .u64 n.job,.string (sB n.M)]:=by rw[f];exact bN.alloc _
 have a:ae d (w.heap.size+1) 60 jp:=by
  rw[f,<-jy w (.cells #[.int .u64 n.job,.string (sB n.M)] 58)];exact bN
 have C:∀W,ac d W->(Instr.lookup 196 (.map (some mb)) (.agg #[.int .u64 n.job,.string (sB n.M)]) false).run Tryz.prog W=.ok (.pointer (some ⟨rp n,0,none⟩)) W:=λW ai=>by
  have:=(t.kp ai nG).look a0 W rfl;rw[D] at this;exact this
 have al:=λk=>C (d.drewN k) (oR.drewN k)
 obtain⟨g,u⟩:=eX w.heap.size;rw[<-u] at s a;have x:d.cell? ⟨tb,1,none⟩=some (.map (some mb)):=t.J.I 1;obtain⟨E,G⟩:=s.gE2;unfold jp at f;have P:=hD t;have a7:=hD C;have a5:=hD s;have p:=hD a;have N:=hD H;have L:=hD u;have a9:=hD D;have Q:=hD f.symm;clear Y t s a H D a0 u f C;unfold aW fe;go_enter Tryz.func51,Tryz.ntmps51;go_upto_region 1 with fail;rw[Q.O,<-L.O];clear Q;go_wp2_with fail
 go_quiet (fail)
 clear al E G x;obtain⟨e,y⟩:=eX (d.drewN nq);rw[<-y];have m:ac d e:=by rw[y];exact oR.drewN nq
 have am:=a7.O e.drew m.drew;have x:e.cell? ⟨tb,1,none⟩=some (.map (some mb)):=(P.O.kp m nG).J.I 1;obtain⟨E,G⟩:=((m.J a5.O nF)).gE2;have q:=hD m;clear m y;go_wp2_with fail
 go_still_tail 6,(by kernel_rfl)
 change wpList _ _ _ _ _ e.drew;obtain⟨X,z⟩:=eX e.drew;rw[<-z];clear am x E G;have v:ac e X:=by rw[z];exact oR.drew
 have Z:=(P.O.kp q.O nG).kp v nG;obtain⟨an,ar,a2,A,c,a3,a4⟩:=Z.row n r a9.O;have ab:=hD (uX (rp n) n r A c F X a3 a4 a2);have a:=v.J (q.O.J p.O nF) nF;have p:=hD a;have R:=hD v;clear Z an ar a2 a3 a4 a v z;go_wp2_with fail;refine ab.O.mono ?_;rintro j b6 ⟨i,c',rfl,a1,K⟩;have ad:=hD a1;have V:=hD K;have a:=K.J p.O nF;have a6:=hD a;have av:=a.I 0;have aw:=a.I 1;have az:=a.I 2;have aE:=a.I 3;have b0:=a.I 4;have b1:=a.I 5;have b2:=a.I 6;have b3:=a.I 7;have b4:=a.I 8;have b5:=a.I 9;simp[jp] at av aw az aE b0 b1 b2 b3 b4 b5;obtain⟨b7,b8,b9,ba,bb,bc,bf,bk,bm,bn⟩:=a.fE10;clear a1 K a;unfold jo;obtain⟨l,B⟩:=eX r.tk.args.length;rw[<-B];have a8:=hD B;clear B;go_wp2_with fail;have u:=L.O;have bo:=N.O.size;have bp:=q.O.size;have bq:=R.O.size;have br:=V.O.size;have bt:=p.O.lt;refine bodyPost_ret (aO Tryz.results51 rfl (cs:=jo n r i c') ?hb Tryz.underlying60 rfl (by kernel_rfl)) rfl ?_
 case hb=>
  unfold jo;rw[<-a8.O];exact tg a6.O
 refine⟨i,c',rfl,(ad.O.kp ?o (λb hb j=>?_)).mo (λb hb=>?_),((((N.O.trans q.O).trans R.O).trans V.O).trans' (T:=λb=>b=g+1\/b=g+1) ?o (λb j=>.inr (by omega)))⟩
 case o=>repeat (first|with_reducible apply oO|with_reducible exact oR)
 ·have:=hb.1
  rcases j with rfl|rfl<;>omega
 ·refine⟨by have:=hb.1;omega,lL hb.2 (aa.size (S:=λb=>b=g+1\/b=g+1) ?_)⟩
  repeat (first|with_reducible apply oO|with_reducible exact oR)
end
end
end Go.Proofs.YtmdocplknceilaaGreat
