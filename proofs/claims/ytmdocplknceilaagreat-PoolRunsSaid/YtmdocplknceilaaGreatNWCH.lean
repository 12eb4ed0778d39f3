import Derived.Test.YtmdocplknceilaaGreatNWCF
import Derived.Test.YtmdocplknceilaaGreatNWCG
import Derived.ChangeOld
import Derived.ShutString
set_option linter.all false
set_option maxRecDepth 100000
namespace Go.Proofs.YtmdocplknceilaaGreat
section
open Go.ChangeShapes Go.WideShapes Go.ChangeAt Go.RowKit
open Go.ChangeMaps (open_string shut_string)
theorem uN:ownKnob Tryz.prog.godebug=none:=by kernel_rfl
theorem fL:laidOutB Tryz.prog=true:=by kernel_rfl
theorem rD(Q:Os)(bm:Q.Started)(Y:Type)(enc:TypeId×Value->Y):
 ReturnsInHanded {} Tryz.checked Q 3 .any (Rows.poolRunsSpec.pre6 enc Tryz.prog Tryz.f3 Rows.poolRunsRow.domain false) (Rows.poolRunsSpec.post enc Tryz.prog Tryz.f3 false true false false):=by
 refine returnsInHanded_of_change (C:=Tryz.checked) uN bm (by kernel_rfl) Tryz.func3
  (ChangeSpec.witness6 (enc:=enc) (C:=Tryz.checked) false ⟨#[],#[.agg #[.slice none 0 0],.slice none 0 0,.int .i64 0,.int .u8 0,.int .u8 0,.slice none 0 0],[]⟩ 8 (by kernel_rfl) (by kernel_rfl) (by kernel_rfl) (by kernel_rfl)) ?_
 intro W base args ds c7 bq E D c9 _;have e:∀(j:Nat) t v,Tryz.f3.params[j]?=some t->args[j]?=some v->Value.okWide Tryz.prog W .any base t v:=E;have a5:=D;obtain⟨p,q,B,a4,rfl,cb,cd⟩:=D;have A:DataW.TrodAll enc Tryz.prog W 0 (λ_=>true) true Tryz.f3.params.toList args.toList ds p:=B;rw[Tryz.params3] at A e;obtain⟨v0,cm,br,c1,b0,ce,c8,rfl,rfl,n,b8⟩:=trodAll_cons A;obtain⟨v1,cn,bt,c2,b1,cf,rfl,rfl,rfl,o,b9⟩:=trodAll_cons b8;obtain⟨v2,cp,bv,c3,b2,cg,rfl,rfl,rfl,r,ba⟩:=trodAll_cons b9;obtain⟨v3,cq,bx,c4,b3,ch,rfl,rfl,rfl,s,bb⟩:=trodAll_cons ba;obtain⟨v4,cr,bz,c5,b4,ci,rfl,rfl,rfl,u,bf⟩:=trodAll_cons bb;obtain⟨v5,cs,c0,c6,b5,ck,rfl,rfl,rfl,w,bk⟩:=trodAll_cons bf;obtain⟨rfl,rfl,rfl⟩:=trodAll_nil bk;obtain rfl:args= #[v0,v1,v2,v3,v4,v5]:=by cases args;simp_all
 obtain⟨rfl,rfl⟩:=trodVars_none a4;have F:=n;have an:∀x∈b0,x.block<W.heap.size:=by obtain⟨c,a⟩:=F;exact DataW.trod_lt c _ _ _ a
 obtain⟨X,b7,a0,rfl,a8,al⟩:=AU (e 0 24 v0 rfl rfl) n;have G:=o;have ar:∀x∈b1,x.block<W.heap.size:=by obtain⟨c,a⟩:=G;exact DataW.trod_lt c _ _ _ a
 obtain⟨l,P,a1,rfl⟩:=okWide_slice Tryz.underlying25 (e 1 25 v1 rfl rfl)
 obtain⟨f,rfl,ab,a9⟩ :∃f:List Int,f.length=P/\cO W W.heap.size 1 l P (f.map (.int .i64))/\∀z∈f,dJ z:=by
  obtain⟨a3,k⟩:=o;exact AT (by simpa[Value.cells] using k)
 have H:=r;have av:∀x∈b2,x.block<W.heap.size:=by obtain⟨c,a⟩:=H;exact DataW.trod_lt c _ _ _ a
 obtain⟨bp,rfl,rfl,rfl,cv⟩:=open_int Tryz.underlying3 (e 2 3 v2 rfl rfl) r;have K:=s;have aw:∀x∈b3,x.block<W.heap.size:=by obtain⟨c,a⟩:=K;exact DataW.trod_lt c _ _ _ a
 obtain⟨T,rfl,rfl,rfl,R⟩:=open_int Tryz.underlying5 (e 3 5 v3 rfl rfl) s;obtain⟨bn,rfl⟩ :∃t:Nat,T=t:=⟨T.toNat,by have:=(bounds_u8 R).1;omega⟩
 have L:=u;have az:∀x∈b4,x.block<W.heap.size:=by obtain⟨c,a⟩:=L;exact DataW.trod_lt c _ _ _ a
 obtain⟨V,rfl,rfl,rfl,S⟩:=open_int Tryz.underlying5 (e 4 5 v4 rfl rfl) u;obtain⟨bo,rfl⟩ :∃t:Nat,V=t:=⟨V.toNat,by have:=(bounds_u8 S).1;omega⟩
 have N:=w;have aE:∀x∈b5,x.block<W.heap.size:=by obtain⟨c,a⟩:=N;exact DataW.trod_lt c _ _ _ a
 obtain⟨m,am,a2,rfl⟩:=okWide_slice Tryz.underlying26 (e 5 26 v5 rfl rfl)
 obtain⟨b6,rfl,ai,ad⟩ :∃ps:List (Nat×Nat),ps.length=am/\cO W W.heap.size 2 m ps.length (ps.flatMap λx=>[.int .u8 (x.1:Int),.int .u32 (x.2:Int)])/\∀y∈ps,y.1<256/\y.2<4294967296:=by
  obtain⟨a3,k⟩:=w;exact CH (by simpa[Value.cells] using k)
 clear B E;refine(Calls.mono (wX uW b7 X l m a0 a1 a2 f bp bn bo b6 _ W (by have:=(bounds_u8 R).2;omega) (by have:=(bounds_u8 S).2;omega) a8 (λb a6=>a6) al ab a9 ai ad) λi Z g=>aI g.1 (g.2.below (λ_ i=>i.elim) (lR))).mono λi Z ⟨a7,d⟩=>?_
 subst a7;exact⟨_,rfl,_,_,_,[],_,[],a5,trodAll_mk1 (shut_bool Tryz.underlying4 _),(trodAll_cons_mk (Below.trod fL (by kernel_rfl) (yD (by kernel_rfl)) F d an) (trodAll_cons_mk (Below.trod fL (by kernel_rfl) (yD (by kernel_rfl)) G d ar) (trodAll_cons_mk (Below.trod fL (by kernel_rfl) (yD (by kernel_rfl)) H d av) (trodAll_cons_mk (Below.trod fL (by kernel_rfl) (yD (by kernel_rfl)) K d aw) (trodAll_cons_mk (Below.trod fL (by kernel_rfl) (yD (by kernel_rfl)) L d az) (trodAll_cons_mk (Below.trod fL (by kernel_rfl) (yD (by kernel_rfl)) N d aE) trodAll_mk0)))))),rfl,d.frame _,λg=>by cases g⟩
theorem poolRuns_holds:Rows.PoolRunsSaid:=
 OpenClaim.holds_of_wide 3 Tryz.f3 rfl rfl rfl rfl rfl rfl rfl ⟨rfl,rfl,rfl,rfl,rfl⟩ rfl rfl rfl rfl rfl (by kernel_rfl) Tryz.func3 (by kernel_rfl)
  (yD (by kernel_rfl)) (by unfold Func.isWrapper;first|(rw[yf (by decide+kernel)];kernel_rfl)|(rw[yb (by decide+kernel)];exact⟨rfl,rfl⟩))
  (λb c a enc _=>rD b c a enc)
#print axioms poolRuns_holds
end
end Go.Proofs.YtmdocplknceilaaGreat
