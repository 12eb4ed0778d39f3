import Derived.Test.YtmdocplknceilaaGreatRWBJ
import Derived.Test.YtmdocplknceilaaGreatRWBM
import Derived.ChangeOld
import Derived.ShutString
set_option linter.all false
set_option maxRecDepth 100000
namespace Go.Proofs.YtmdocplknceilaaGreat
section
open Go.ChangeShapes Go.WideShapes Go.ChangeAt Go.RowKit
open Go.ChangeMaps (open_string shut_string)
theorem vj:ownKnob Tryz.prog.godebug=none:=by kernel_rfl
theorem gX:laidOutB Tryz.prog=true:=by kernel_rfl
theorem rT(P:Os)(b9:P.Started)(R:Type)(enc:TypeId×Value->R):
 ReturnsInHanded {} Tryz.checked P 6 .any (Rows.soloRunsSpec.pre6 enc Tryz.prog Tryz.f6 Rows.soloRunsRow.domain false) (Rows.soloRunsSpec.post enc Tryz.prog Tryz.f6 false true false false):=by
 refine returnsInHanded_of_change (C:=Tryz.checked) vj b9 (by kernel_rfl) Tryz.func6
  (ChangeSpec.witness6 (enc:=enc) (C:=Tryz.checked) false ⟨#[],#[.agg #[.slice none 0 0],.slice none 0 0,.int .i64 0,.agg #[.int .i64 0,.int .i64 0,.int .i64 0],.slice none 0 0],[]⟩ 8 (by kernel_rfl) (by kernel_rfl) (by kernel_rfl) (by kernel_rfl)) ?_
 intro W base args ds bv bc E D bz _;have e:∀(j:Nat) t v,Tryz.f6.params[j]?=some t->args[j]?=some v->Value.okWide Tryz.prog W .any base t v:=E;have a1:=D;obtain⟨p,q,B,a0,rfl,c1,c2⟩:=D;have A:DataW.TrodAll enc Tryz.prog W 0 (λ_=>true) true Tryz.f6.params.toList args.toList ds p:=B;rw[Tryz.params6] at A e;obtain⟨v0,c8,bf,bo,aw,c3,bx,rfl,rfl,o,b3⟩:=trodAll_cons A;obtain⟨v1,c9,bk,bp,az,c4,rfl,rfl,rfl,r,b4⟩:=trodAll_cons b3;obtain⟨v2,cb,bm,bq,aE,c5,rfl,rfl,rfl,s,b5⟩:=trodAll_cons b4;obtain⟨v3,cd,bn,br,b0,c6,rfl,rfl,rfl,u,b6⟩:=trodAll_cons b5;obtain⟨v4,ce,Y,bt,b1,c7,rfl,rfl,rfl,w,b7⟩:=trodAll_cons b6;obtain⟨rfl,rfl,rfl⟩:=trodAll_nil b7;obtain rfl:args= #[v0,v1,v2,v3,v4]:=by cases args;simp_all
 obtain⟨rfl,rfl⟩:=trodVars_none a0;have F:=o;have ai:∀x∈aw,x.block<W.heap.size:=by obtain⟨c,a⟩:=F;exact DataW.trod_lt c _ _ _ a
 obtain⟨Q,b2,T,rfl,a5,a9⟩:=Bt (e 0 24 v0 rfl rfl) o;have G:=r;have al:∀x∈az,x.block<W.heap.size:=by obtain⟨c,a⟩:=G;exact DataW.trod_lt c _ _ _ a
 obtain⟨l,N,V,rfl⟩:=okWide_slice Tryz.underlying25 (e 1 25 v1 rfl rfl)
 obtain⟨f,rfl,a7,a6⟩ :∃f:List Int,f.length=N/\bP W W.heap.size 1 l N (f.map (.int .i64))/\∀z∈f,dy z:=by
  obtain⟨Z,k⟩:=r;exact Bs (by simpa[Value.cells] using k)
 have H:=s;have am:∀x∈aE,x.block<W.heap.size:=by obtain⟨c,a⟩:=H;exact DataW.trod_lt c _ _ _ a
 obtain⟨bb,rfl,rfl,rfl,cf⟩:=open_int Tryz.underlying3 (e 2 3 v2 rfl rfl) s;have K:=u;have an:∀x∈b0,x.block<W.heap.size:=by obtain⟨c,a⟩:=K;exact DataW.trod_lt c _ _ _ a
 obtain⟨ba,ab,av,rfl⟩:=ET (e 3 40 v3 rfl rfl) u;have L:=w;have ar:∀x∈b1,x.block<W.heap.size:=by obtain⟨c,a⟩:=L;exact DataW.trod_lt c _ _ _ a
 obtain⟨m,ad,X,rfl⟩:=okWide_slice Tryz.underlying82 (e 4 82 v4 rfl rfl)
 obtain⟨ps,rfl,a8,a3,c0⟩ :∃ps:List (Int×Nat),ps.length=ad/\bP W W.heap.size 2 m ps.length (ps.flatMap jF)/\(∀y∈ps,y.2<4294967296)/\(ps.length=0\/∃n b8,Y=.slice n b8/\n.length=ps.length):=by
  obtain⟨Z,k⟩:=w;exact Dh (by simpa[Value.cells] using k)
 clear B E;refine(Calls.mono (xA b2 Q l m T V X f bb ba ab av ps _ W a5 (λb a2=>a2) a9 a7 a6 a8 a3) λi S g=>aI g.1 (g.2.below (λ_ i=>i.elim) (lR))).mono λi S ⟨a4,d⟩=>?_
 subst a4;exact⟨_,rfl,_,_,_,[],_,[],a1,trodAll_mk1 (shut_bool Tryz.underlying4 _),(trodAll_cons_mk (Below.trod gX (by kernel_rfl) (yD (by kernel_rfl)) F d ai) (trodAll_cons_mk (Below.trod gX (by kernel_rfl) (yD (by kernel_rfl)) G d al) (trodAll_cons_mk (Below.trod gX (by kernel_rfl) (yD (by kernel_rfl)) H d am) (trodAll_cons_mk (Below.trod gX (by kernel_rfl) (yD (by kernel_rfl)) K d an) (trodAll_cons_mk (Below.trod gX (by kernel_rfl) (yD (by kernel_rfl)) L d ar) trodAll_mk0))))),rfl,d.frame _,λg=>by cases g⟩
theorem soloRuns_holds:Rows.SoloRunsSaid:=
 OpenClaim.holds_of_wide 6 Tryz.f6 rfl rfl rfl rfl rfl rfl rfl ⟨rfl,rfl,rfl,rfl,rfl⟩ rfl rfl rfl rfl rfl (by kernel_rfl) Tryz.func6 (by kernel_rfl)
  (yD (by kernel_rfl)) (by unfold Func.isWrapper;first|(rw[yf (by decide+kernel)];kernel_rfl)|(rw[yb (by decide+kernel)];exact⟨rfl,rfl⟩))
  (λb c a enc _=>rT b c a enc)
end
end Go.Proofs.YtmdocplknceilaaGreat
