import Derived.Test.YtmdocplknceilaaGreatSWBH
import Derived.Test.YtmdocplknceilaaGreatSWBJ
import Derived.ChangeOld
import Derived.ShutString
set_option linter.all false
set_option maxRecDepth 100000
namespace Go.Proofs.YtmdocplknceilaaGreat
section
open Go.ChangeShapes Go.WideShapes Go.ChangeAt Go.RowKit
open Go.ChangeMaps (open_string shut_string)
theorem tn:ownKnob Tryz.prog.godebug=none:=by kernel_rfl
theorem en:laidOutB Tryz.prog=true:=by kernel_rfl
theorem pZ(a0:Os)(c8:a0.Started)(a2:Type)(enc:TypeId×Value->a2):
 ReturnsInHanded {} Tryz.checked a0 7 .any (Rows.soloSameSpec.pre6 enc Tryz.prog Tryz.f7 Rows.soloSameRow.domain false) (Rows.soloSameSpec.post enc Tryz.prog Tryz.f7 false true false false):=by
 refine returnsInHanded_of_change_sized (C:=Tryz.checked) tn c8 (by kernel_rfl) Tryz.func7
  (ChangeSpec.witness6 (enc:=enc) (C:=Tryz.checked) false ⟨#[],#[.agg #[.slice none 0 0],.slice none 0 0,.int .i64 0,.agg #[.int .i64 0,.int .i64 0,.int .i64 0],.agg #[.int .i64 0,.int .i64 0,.int .i64 0],.slice none 0 0,.slice none 0 0],[]⟩ 8 (by kernel_rfl) (by kernel_rfl) (by kernel_rfl) (by kernel_rfl)) ?_
 intro W base args ds cB ce P N d3 o _;have g:∀(j:Nat) t v,Tryz.f7.params[j]?=some t->args[j]?=some v->Value.okWide Tryz.prog W .any base t v:=P;have ai:=N;obtain⟨p,q,L,ad,rfl,d4,d5⟩:=N;have K:DataW.TrodAll enc Tryz.prog W 0 (λ_=>true) true Tryz.f7.params.toList args.toList ds p:=L;rw[Tryz.params7] at K g;obtain⟨v0,dp,cf,cm,bp,d6,d0,rfl,rfl,B,c1⟩:=trodAll_cons K;obtain⟨v1,dq,cg,cn,bq,d7,rfl,rfl,rfl,D,c2⟩:=trodAll_cons c1;obtain⟨v2,dr,ch,cp,br,d8,rfl,rfl,rfl,n,c3⟩:=trodAll_cons c2;obtain⟨v3,dv,ci,cq,bt,dk,rfl,rfl,rfl,E,c4⟩:=trodAll_cons c3;obtain⟨v4,dw,ck,cr,bv,dl,rfl,rfl,rfl,F,c5⟩:=trodAll_cons c4;obtain⟨v5,dz,a8,cs,bx,dm,rfl,rfl,rfl,G,c6⟩:=trodAll_cons c5;obtain⟨v6,e0,a9,cv,bz,dn,rfl,rfl,rfl,H,c7⟩:=trodAll_cons c6;obtain⟨rfl,rfl,rfl⟩:=trodAll_nil c7;obtain rfl:args= #[v0,v1,v2,v3,v4,v5,v6]:=by cases args;simp_all
 obtain⟨rfl,rfl⟩:=trodVars_none ad;have Q:=B;have b9:∀x∈bp,x.block<W.heap.size:=by obtain⟨c,a⟩:=Q;exact DataW.trod_lt c _ _ _ a
 obtain⟨a1,c0,a4,rfl,az,b4⟩:=xb (g 0 24 v0 rfl rfl) B;have R:=D;have ba:∀x∈bq,x.block<W.heap.size:=by obtain⟨c,a⟩:=R;exact DataW.trod_lt c _ _ _ a
 obtain⟨s,Z,a5,rfl⟩:=okWide_slice Tryz.underlying25 (g 1 25 v1 rfl rfl)
 obtain⟨l,rfl,b0,aE⟩ :∃l:List Int,l.length=Z/\cw W W.heap.size 1 s Z (l.map (.int .i64))/\∀z∈l,dc z:=by
  obtain⟨A,k⟩:=D;exact w8 (by simpa[Value.cells] using k)
 have S:=n;have bb:∀x∈br,x.block<W.heap.size:=by obtain⟨c,a⟩:=S;exact DataW.trod_lt c _ _ _ a
 obtain⟨cd,rfl,rfl,rfl,e1⟩:=open_int Tryz.underlying3 (g 2 3 v2 rfl rfl) n;have T:=E;have bc:∀x∈bt,x.block<W.heap.size:=by obtain⟨c,a⟩:=T;exact DataW.trod_lt c _ _ _ a
 obtain⟨c9,b5,bn,rfl⟩:=tN (g 3 40 v3 rfl rfl) E;have V:=F;have bf:∀x∈bv,x.block<W.heap.size:=by obtain⟨c,a⟩:=V;exact DataW.trod_lt c _ _ _ a
 obtain⟨cb,b6,bo,rfl⟩:=tN (g 4 40 v4 rfl rfl) F;have X:=G;have bk:∀x∈bx,x.block<W.heap.size:=by obtain⟨c,a⟩:=X;exact DataW.trod_lt c _ _ _ a
 obtain⟨u,b7,a6,rfl⟩:=okWide_slice Tryz.underlying82 (g 5 82 v5 rfl rfl)
 obtain⟨ps,rfl,b1,am,ar⟩ :∃ps:List (Int×Nat),ps.length=b7/\cw W W.heap.size 2 u ps.length (ps.flatMap iq)/\(∀y∈ps,y.2<4294967296)/\(ps.length=0\/∃e i,a8=.slice e i/\e.length=ps.length):=by
  obtain⟨A,k⟩:=G;exact sj (by simpa[Value.cells] using k)
 have Y:=H;have bm:∀x∈bz,x.block<W.heap.size:=by obtain⟨c,a⟩:=Y;exact DataW.trod_lt c _ _ _ a
 obtain⟨w,b8,a7,rfl⟩:=okWide_slice Tryz.underlying82 (g 6 82 v6 rfl rfl)
 obtain⟨r,rfl,b2,an,av⟩ :∃ps:List (Int×Nat),ps.length=b8/\cw W W.heap.size 2 w ps.length (ps.flatMap iq)/\(∀y∈ps,y.2<4294967296)/\(ps.length=0\/∃e i,a9=.slice e i/\e.length=ps.length):=by
  obtain⟨A,k⟩:=H;exact sj (by simpa[Value.cells] using k)
 have d1:ps.length<=140737488355328:=by
  rcases ar with d|⟨e,i,d,ab⟩
  ·omega
  ·subst d
   have:=sized_slice (t:=82) o (j:=5) rfl rfl Tryz.underlying82;have this:(e.length+i.length)*Tryz.prog.bytesOf 90<=reachBytes:=this;rw[rt] at this;have n:=reachBytes_lt;omega
 have d2:r.length<=140737488355328:=by
  rcases av with d|⟨e,i,d,ab⟩
  ·omega
  ·subst d
   have:=sized_slice (t:=82) o (j:=6) rfl rfl Tryz.underlying82;have this:(e.length+i.length)*Tryz.prog.bytesOf 90<=reachBytes:=this;rw[rt] at this;have n:=reachBytes_lt;omega
 have b3:(ps.length:Int)+(r.length:Int)<=9223372036854775807:=by omega
 clear L P o;refine(Calls.mono (vd c0 a1 s u w a4 a5 a6 a7 l cd c9 b5 bn cb b6 bo ps r _ W az (λb al=>al) b4 b0 aE b1 am b2 an b3) λd a3 m=>aI m.1 (m.2.below (λ_ d=>d.elim) (lR))).mono λd a3 ⟨aw,f⟩=>?_
 subst aw;exact⟨_,rfl,_,_,_,[],_,[],ai,trodAll_mk1 (shut_bool Tryz.underlying4 _),(trodAll_cons_mk (Below.trod en (by kernel_rfl) (yD (by kernel_rfl)) Q f b9) (trodAll_cons_mk (Below.trod en (by kernel_rfl) (yD (by kernel_rfl)) R f ba) (trodAll_cons_mk (Below.trod en (by kernel_rfl) (yD (by kernel_rfl)) S f bb) (trodAll_cons_mk (Below.trod en (by kernel_rfl) (yD (by kernel_rfl)) T f bc) (trodAll_cons_mk (Below.trod en (by kernel_rfl) (yD (by kernel_rfl)) V f bf) (trodAll_cons_mk (Below.trod en (by kernel_rfl) (yD (by kernel_rfl)) X f bk) (trodAll_cons_mk (Below.trod en (by kernel_rfl) (yD (by kernel_rfl)) Y f bm) trodAll_mk0))))))),rfl,f.frame _,λm=>by cases m⟩
theorem soloSame_holds:Rows.SoloSameSaid:=
 OpenClaim.holds_of_wide 7 Tryz.f7 rfl rfl rfl rfl rfl rfl rfl ⟨rfl,rfl,rfl,rfl,rfl⟩ rfl rfl rfl rfl rfl (by kernel_rfl) Tryz.func7 (by kernel_rfl)
  (yD (by kernel_rfl)) (by unfold Func.isWrapper;first|(rw[yf (by decide+kernel)];kernel_rfl)|(rw[yb (by decide+kernel)];exact⟨rfl,rfl⟩))
  (λb c a enc _=>pZ b c a enc)
end
end Go.Proofs.YtmdocplknceilaaGreat
