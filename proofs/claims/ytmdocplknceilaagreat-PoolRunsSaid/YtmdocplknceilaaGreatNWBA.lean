import Derived.Test.YtmdocplknceilaaGreatNWAZ
set_option linter.all false
set_option maxRecDepth 100000
set_option maxHeartbeats 4000000
namespace Go.Proofs.YtmdocplknceilaaGreat
section
open Go.RowKit Go.Maps
def dS(k:Int):Bool:=decide (1<=k/\k<=9\/k=12)
def mZ(k:Int):Bool:=decide (2<=k/\k<=9\/k=11\/k=12\/k=14)
def na(k:Int):Bool:=decide (3<=k/\k<=9)
def nc(k:Int):Bool:=decide (k=1\/k=10\/k=11\/k=12)
def rB(k:Int):Bool:=decide (1<=k/\k<=14)
theorem Cl(k:Int):(cX gX (.int .u8 k)).getD (aq false false false false)=aq (dS k) (mZ k) (na k) (nc k)/\(cX gX (.int .u8 k)).isSome=rB k:=by
 by_cases i:1<=k/\k<=14
 rotate_left
 ·have g:cX gX (.int .u8 k)=none:=gg _ _ (by simp[gX];omega)
  have b:dS k=false:=yd (by omega);have c:mZ k=false:=yd (by omega);have d:na k=false:=yd (by omega);have e:nc k=false:=yd (by omega);have f:rB k=false:=yd (by omega);rw[g,b,c,d,e,f];exact⟨rfl,rfl⟩
 have a:k=1\/k=2\/k=3\/k=4\/k=5\/k=6\/k=7\/k=8\/k=9\/k=10\/k=11\/k=12\/k=13\/k=14:=by omega
 rcases a with a|a|a|a|a|a|a|a|a|a|a|a|a|a
 ·subst a
  have:cX gX (.int .u8 1)=some (aq true false false true):=d6 [] 1 _ ([1],aq true false false true) [([2],aq true true false false),([3,4,5,6,7,8,9],aq true true true false),([10],aq false false false true),([11],aq false true false true),([12],aq true true false true),([13],aq false false false false),([14],aq false true false false)] (by simp) rfl (by simp);rw[this];exact⟨rfl,rfl⟩
 ·subst a
  have:cX gX (.int .u8 2)=some (aq true true false false):=d6 [([1],aq true false false true)] 2 _ ([2],aq true true false false) [([3,4,5,6,7,8,9],aq true true true false),([10],aq false false false true),([11],aq false true false true),([12],aq true true false true),([13],aq false false false false),([14],aq false true false false)] (by simp) rfl (by simp);rw[this];exact⟨rfl,rfl⟩
 ·subst a
  have:cX gX (.int .u8 3)=some (aq true true true false):=d6 [([1],aq true false false true),([2],aq true true false false)] 3 _ ([3,4,5,6,7,8,9],aq true true true false) [([10],aq false false false true),([11],aq false true false true),([12],aq true true false true),([13],aq false false false false),([14],aq false true false false)] (by simp) rfl (by simp);rw[this];exact⟨rfl,rfl⟩
 ·subst a
  have:cX gX (.int .u8 4)=some (aq true true true false):=d6 [([1],aq true false false true),([2],aq true true false false)] 4 _ ([3,4,5,6,7,8,9],aq true true true false) [([10],aq false false false true),([11],aq false true false true),([12],aq true true false true),([13],aq false false false false),([14],aq false true false false)] (by simp) rfl (by simp);rw[this];exact⟨rfl,rfl⟩
 ·subst a
  have:cX gX (.int .u8 5)=some (aq true true true false):=d6 [([1],aq true false false true),([2],aq true true false false)] 5 _ ([3,4,5,6,7,8,9],aq true true true false) [([10],aq false false false true),([11],aq false true false true),([12],aq true true false true),([13],aq false false false false),([14],aq false true false false)] (by simp) rfl (by simp);rw[this];exact⟨rfl,rfl⟩
 ·subst a
  have:cX gX (.int .u8 6)=some (aq true true true false):=d6 [([1],aq true false false true),([2],aq true true false false)] 6 _ ([3,4,5,6,7,8,9],aq true true true false) [([10],aq false false false true),([11],aq false true false true),([12],aq true true false true),([13],aq false false false false),([14],aq false true false false)] (by simp) rfl (by simp);rw[this];exact⟨rfl,rfl⟩
 ·subst a
  have:cX gX (.int .u8 7)=some (aq true true true false):=d6 [([1],aq true false false true),([2],aq true true false false)] 7 _ ([3,4,5,6,7,8,9],aq true true true false) [([10],aq false false false true),([11],aq false true false true),([12],aq true true false true),([13],aq false false false false),([14],aq false true false false)] (by simp) rfl (by simp);rw[this];exact⟨rfl,rfl⟩
 ·subst a
  have:cX gX (.int .u8 8)=some (aq true true true false):=d6 [([1],aq true false false true),([2],aq true true false false)] 8 _ ([3,4,5,6,7,8,9],aq true true true false) [([10],aq false false false true),([11],aq false true false true),([12],aq true true false true),([13],aq false false false false),([14],aq false true false false)] (by simp) rfl (by simp);rw[this];exact⟨rfl,rfl⟩
 ·subst a
  have:cX gX (.int .u8 9)=some (aq true true true false):=d6 [([1],aq true false false true),([2],aq true true false false)] 9 _ ([3,4,5,6,7,8,9],aq true true true false) [([10],aq false false false true),([11],aq false true false true),([12],aq true true false true),([13],aq false false false false),([14],aq false true false false)] (by simp) rfl (by simp);rw[this];exact⟨rfl,rfl⟩
 ·subst a
  have:cX gX (.int .u8 10)=some (aq false false false true):=d6 [([1],aq true false false true),([2],aq true true false false),([3,4,5,6,7,8,9],aq true true true false)] 10 _ ([10],aq false false false true) [([11],aq false true false true),([12],aq true true false true),([13],aq false false false false),([14],aq false true false false)] (by simp) rfl (by simp);rw[this];exact⟨rfl,rfl⟩
 ·subst a
  have:cX gX (.int .u8 11)=some (aq false true false true):=d6 [([1],aq true false false true),([2],aq true true false false),([3,4,5,6,7,8,9],aq true true true false),([10],aq false false false true)] 11 _ ([11],aq false true false true) [([12],aq true true false true),([13],aq false false false false),([14],aq false true false false)] (by simp) rfl (by simp);rw[this];exact⟨rfl,rfl⟩
 ·subst a
  have:cX gX (.int .u8 12)=some (aq true true false true):=d6 [([1],aq true false false true),([2],aq true true false false),([3,4,5,6,7,8,9],aq true true true false),([10],aq false false false true),([11],aq false true false true)] 12 _ ([12],aq true true false true) [([13],aq false false false false),([14],aq false true false false)] (by simp) rfl (by simp);rw[this];exact⟨rfl,rfl⟩
 ·subst a
  have:cX gX (.int .u8 13)=some (aq false false false false):=d6 [([1],aq true false false true),([2],aq true true false false),([3,4,5,6,7,8,9],aq true true true false),([10],aq false false false true),([11],aq false true false true),([12],aq true true false true)] 13 _ ([13],aq false false false false) [([14],aq false true false false)] (by simp) rfl (by simp);rw[this];exact⟨rfl,rfl⟩
 ·subst a
  have:cX gX (.int .u8 14)=some (aq false true false false):=d6 [([1],aq true false false true),([2],aq true true false false),([3,4,5,6,7,8,9],aq true true true false),([10],aq false false false true),([11],aq false true false true),([12],aq true true false true),([13],aq false false false false)] 14 _ ([14],aq false true false false) [] (by simp) rfl (by simp);rw[this];exact⟨rfl,rfl⟩
def cF(o:bI):Bool:=rB o.k&&(co o.d&&co o.a&&co o.b)&&(dS o.k||o.d==0)&&(mZ o.k||o.a==0)&&(na o.k||o.b==0)&&(nc o.k||o.n==0)
theorem vj(g:Nat)(xs:List Int)(c:Nat)(w:World)(d:fS w g .i64 xs)(e:xs.length<=1000):
 Calls Tryz.prog 192 #[.slice (some ⟨g,0,none⟩) xs.length c] w λb w'=>b=.returned (.bool (xs.all co))/\ac w w':=by
 have a:=DV g xs c w d e;have f:xs.all co= !(xs.any λx=>!co x):=by rw[List.not_any_eq_all_not];simp
 rw[f];have j:=hD a;generalize xs.any (λx=>!co x)=r at*;generalize xs.length=n at*;clear a d e f;go_enter Tryz.func192,Tryz.ntmps192;go_wp2_with fail;refine j.O.mono ?_;rintro b l ⟨rfl,i⟩;have k:=hD i;clear i;go_wp2_with fail;go_ret;exact⟨rfl,k.O⟩
theorem vN(o:bI)(b2:(Lit.int .u8 o.k).wf=true)(w:World):Calls Tryz.prog 195 #[cR o] w λv w'=>v=.returned (.bool (cF o))/\ac w w':=by
 obtain⟨e,G⟩:=eX (w.alloc (.cells #[.int .u8 o.k,.int .i64 o.d,.int .i64 o.a,.int .i64 o.b,.int .i64 o.n] 106));have b3:ac w e:=by rw[G];exact(aa.refl _ w).alloc _
 have E:ae e w.heap.size 106 #[.int .u8 o.k,.int .i64 o.d,.int .i64 o.a,.int .i64 o.b,.int .i64 o.n]:=by rw[G];exact bN
 obtain⟨g,V⟩:=eX w.heap.size;rw[<-V] at E;obtain⟨Y,Z⟩:=Cl o.k;obtain⟨u,X⟩ :∃b,b=rB o.k:=⟨_,rfl⟩
 obtain⟨d,T⟩ :∃b,b=dS o.k:=⟨_,rfl⟩
 obtain⟨a,R⟩ :∃b,b=mZ o.k:=⟨_,rfl⟩
 obtain⟨b,S⟩:=eX (na o.k);obtain⟨n,a0⟩ :∃b,b=nc o.k:=⟨_,rfl⟩
 rw[<-T,<-R,<-S,<-a0] at Y;rw[<-X] at Z;obtain⟨r,a1⟩:=eX ((co o.d&&co o.a&&co o.b));obtain⟨b5,a2⟩ :∃x,x=(o.d==0):=⟨_,rfl⟩
 obtain⟨a6,a3⟩ :∃x,x=(o.a==0):=⟨_,rfl⟩
 obtain⟨D,a4⟩ :∃x,x=(o.b==0):=⟨_,rfl⟩
 obtain⟨s,a5⟩ :∃x,x=(o.n==0):=⟨_,rfl⟩
 have b1:cF o=(u&&r&&(d||b5)&&(a||a6)&&(b||D)&&(n||s)):=by unfold cF;rw[X,a1,T,R,S,a0,a2,a3,a4,a5]
 rw[b1];have b8:=hD (aI a2.symm (aI a3.symm (aI a4.symm a5.symm)));clear a2 a3 a4 a5
 have y:Hd (∀W i,aN Tryz.prog W 5 i (cX gX) 14->∀k,(Instr.lookup 329 (.map (some i)) (.int .u8 o.k) true).run Tryz.prog (W.drewN k)=.ok (.tuple #[aq d a b n,.bool u]) (W.drewN k)):=hD λW i f k=>by
  have:=(f.heap (w':=W.drewN k) rfl).look2 vS Tryz.underlying329 (z:=aq false false false false) (by kernel_rfl) (Maps.keyOf_int_mk Tryz.underlying5 b2);rw[Y,Z] at this;exact this
 have an:Hd (∀W F,fS W F .i64 [o.d,o.a,o.b]->Calls Tryz.prog 192 #[.slice (some ⟨F,0,none⟩) 3 3] W λv w'=>v=.returned (.bool r)/\ac W w'):=hD λW F ba=>by
  have:=vj F [o.d,o.a,o.b] 3 W ba (by simp);rw[show [o.d,o.a,o.b].all co=r by rw[a1];simp[Bool.and_assoc]] at this;exact this
 have ab:=hD E;have am:=hD b3;have b7:=hD V;have ar:=hD G.symm;have L:=hD DT;have l:Hd (∀W,ac e W->ac e W/\W.cell? ⟨g,0,none⟩=some (.int .u8 o.k)):=hD λW aE=>⟨aE,(aE.J E nF).I 0⟩
 clear E b3 V G Y Z X T R S a0 a1 b1 b2;unfold cR;go_enter Tryz.func195,Tryz.ntmps195;go_upto_region 1 with fail;rw[ar.O,<-b7.O];clear ar
 go_cut [3,4] (λs3 s4 wx=>s4=.bool u/\∃Q:Nat,s3=.pointer (some ⟨Q,0,none⟩)/\ae wx Q 327 #[.bool d,.bool a,.bool b,.bool n]/\ac e wx)
 case first=>
  have c6:=l.O e oR;have b6:Hd (ae (e.alloc (.cells #[.bool false,.bool false,.bool false,.bool false] 327)) e.heap.size 327 #[.bool false,.bool false,.bool false,.bool false]):=hD (ae.new e _ _);have N:Hd (ac e (e.alloc (.cells #[.bool false,.bool false,.bool false,.bool false] 327))):=hD (oR.alloc _);have al:Hd (∀W i,aN Tryz.prog W 5 i (cX gX) 14->(∀k,(Instr.lookup 329 (.map (some i)) (.int .u8 o.k) true).run Tryz.prog (W.drewN k)=.ok (.tuple #[.agg #[.bool d,.bool a,.bool b,.bool n],.bool u]) (W.drewN k))/\(Instr.lookup 329 (.map (some i)) (.int .u8 o.k) true).run Tryz.prog W=.ok (.tuple #[.agg #[.bool d,.bool a,.bool b,.bool n],.bool u]) W/\(Instr.lookup 329 (.map (some i)) (.int .u8 o.k) true).run Tryz.prog W.drew=.ok (.tuple #[.agg #[.bool d,.bool a,.bool b,.bool n],.bool u]) W.drew/\∀K,(Instr.lookup 329 (.map (some i)) (.int .u8 o.k) true).run Tryz.prog (W.alloc K)=.ok (.tuple #[.agg #[.bool d,.bool a,.bool b,.bool n],.bool u]) (W.alloc K)):=hD λW i f=>⟨y.O W i f,y.O W i f 0,y.O W i f 1,λK=>y.O (W.alloc K) i (f.only ((aa.refl (λ_=>False) _).alloc _) nF) 0⟩
  go_region_held3 (λw'=>ac e w'/\w'.cell? ⟨g,0,none⟩=some (.int .u8 o.k))
   (first|with_reducible exact l.O _ t.O|with_reducible exact l.O _ (aa.alloc t.O _)|with_reducible exact l.O _ N.O|with_reducible exact l.O _ (aa.drew N.O)|with_reducible exact l.O _ (aa.drew oR)|with_reducible exact l.O _ oR|with_reducible exact l.O _ (aa.drew t.O)|(with_reducible refine l.O _ ?_;with_reducible refine aa.setCell ?_ (Or.inr (lR)) _;repeat (first|with_reducible exact t.O|with_reducible refine aa.setCell ?_ (Or.inr (lR)) _))|(trace_state;fail))
   (first
    |(go_at_call 220;refine(L.O e.drew).mono ?_;rintro v j ⟨rfl,f,m⟩;have t:Hd (ac e j):=hD (aa.trans (aa.drew oR) m);(simp only[World.size_drew] at f);obtain⟨bb,bf,bk,bm⟩:=al.O _ _ f;have bz:=hD f;clear f m)
    |(go_at_call 220;refine(L.O (e.alloc (.cells #[.bool false,.bool false,.bool false,.bool false] 327)).drew).mono ?_;rintro v j ⟨rfl,f,m⟩;have t:Hd (ac e j):=hD (aa.trans (aa.drew N.O) m);have q:=hD (m.J b6.O nF);(simp only[World.size_drew,World.size_alloc] at f);obtain⟨bb,bf,bk,bm⟩:=al.O _ _ f;have c1:j.cell? ⟨e.heap.size,0,none⟩=some (.bool false):=q.O.I 0;have av:j.cell? ⟨e.heap.size,1,none⟩=some (.bool false):=q.O.I 1;have aw:j.cell? ⟨e.heap.size,2,none⟩=some (.bool false):=q.O.I 2;have az:j.cell? ⟨e.heap.size,3,none⟩=some (.bool false):=q.O.I 3;have c2:j.frozen? ⟨e.heap.size,0,none⟩=false:=q.O.fz 0;have c3:j.frozen? ⟨e.heap.size,1,none⟩=false:=q.O.fz 1;have c4:j.frozen? ⟨e.heap.size,2,none⟩=false:=q.O.fz 2;have c5:j.frozen? ⟨e.heap.size,3,none⟩=false:=q.O.fz 3;clear f m)
    |fail)
  ·go_wp2_with fail
   go_meet
   case rel=>exact⟨rfl,j.heap.size,rfl,bN,t.O.alloc _⟩
  ·go_wp2_with fail
   go_meet
   case rel=>exact⟨rfl,j.heap.size,rfl,bN,t.O.alloc _⟩
  ·go_wp2_with fail
   go_meet
   case rel=>exact⟨rfl,e.heap.size,rfl,(((q.O.s_ 0 _).s_ 1 _).s_ 2 _).s_ 3 _,((((t.O).setCell (p:=⟨e.heap.size,0,none⟩) (.inr (lR)) _).setCell (p:=⟨e.heap.size,1,none⟩) (.inr (lR)) _).setCell (p:=⟨e.heap.size,2,none⟩) (.inr (lR)) _).setCell (p:=⟨e.heap.size,3,none⟩) (.inr (lR)) _⟩
 case rest=>
  obtain⟨rfl,Q,rfl,b0,m⟩:=hcut;have A:=m.J ab.O nF;obtain⟨av,aw,az,b9⟩:=b8.O;have P:Hd (ac w wc):=hD (am.O.trans m);have a7:=A.I 1;have a8:=A.I 2;have a9:=A.I 3;simp at a7 a8 a9;have ai:=hD b0;have ad:=hD A;clear A b0 m ab am y l L
  cases u
  ·have c:=P
   clear a7 a8 a9 av aw az b9;go_wp2_with fail;go_ret;exact⟨rfl,c.O⟩
  ·go_wp2_with fail
   refine(an.O _ _ (eA wc .i64 [o.d,o.a,o.b] _)).mono ?_;rintro v c0 ⟨rfl,b4⟩;have H:=((aa.refl (λ_=>False) wc).alloc (.cells #[.int .i64 o.d,.int .i64 o.a,.int .i64 o.b] 3)).trans b4;have c:=hD (P.O.trans H);have B:=H.J ad.O nF;have C:=H.J ai.O nF;have br:=B.I 1;have bt:=B.I 2;have bv:=B.I 3;have bx:=B.I 4;have bn:=C.I 0;have bo:=C.I 1;have bp:=C.I 2;have bq:=C.I 3;simp at br bt bv bx bn bo bp bq;clear b4 H B C a7 a8 a9 an ai ad P
   cases r
   ·go_wp2_with fail
    go_ret;exact⟨rfl,c.O⟩
   ·cases d
    ·cases b5
     ·go_wp2_with fail
      go_ret;exact⟨rfl,c.O⟩
     ·cases a
      ·cases a6
       ·go_wp2_with fail
        go_ret;exact⟨rfl,c.O⟩
       ·cases b
        ·cases D
         ·go_wp2_with fail
          go_ret;exact⟨rfl,c.O⟩
         ·cases n
          ·cases s
           ·go_wp2_with fail
            go_ret;exact⟨rfl,c.O⟩
           ·go_wp2_with fail
            go_ret;exact⟨rfl,c.O⟩
          ·go_wp2_with fail
           go_ret;exact⟨rfl,c.O⟩
        ·cases n
         ·cases s
          ·go_wp2_with fail
           go_ret;exact⟨rfl,c.O⟩
          ·go_wp2_with fail
           go_ret;exact⟨rfl,c.O⟩
         ·go_wp2_with fail
          go_ret;exact⟨rfl,c.O⟩
      ·cases b
       ·cases D
        ·go_wp2_with fail
         go_ret;exact⟨rfl,c.O⟩
        ·cases n
         ·cases s
          ·go_wp2_with fail
           go_ret;exact⟨rfl,c.O⟩
          ·go_wp2_with fail
           go_ret;exact⟨rfl,c.O⟩
         ·go_wp2_with fail
          go_ret;exact⟨rfl,c.O⟩
       ·cases n
        ·cases s
         ·go_wp2_with fail
          go_ret;exact⟨rfl,c.O⟩
         ·go_wp2_with fail
          go_ret;exact⟨rfl,c.O⟩
        ·go_wp2_with fail
         go_ret;exact⟨rfl,c.O⟩
    ·cases a
     ·cases a6
      ·go_wp2_with fail
       go_ret;exact⟨rfl,c.O⟩
      ·cases b
       ·cases D
        ·go_wp2_with fail
         go_ret;exact⟨rfl,c.O⟩
        ·cases n
         ·cases s
          ·go_wp2_with fail
           go_ret;exact⟨rfl,c.O⟩
          ·go_wp2_with fail
           go_ret;exact⟨rfl,c.O⟩
         ·go_wp2_with fail
          go_ret;exact⟨rfl,c.O⟩
       ·cases n
        ·cases s
         ·go_wp2_with fail
          go_ret;exact⟨rfl,c.O⟩
         ·go_wp2_with fail
          go_ret;exact⟨rfl,c.O⟩
        ·go_wp2_with fail
         go_ret;exact⟨rfl,c.O⟩
     ·cases b
      ·cases D
       ·go_wp2_with fail
        go_ret;exact⟨rfl,c.O⟩
       ·cases n
        ·cases s
         ·go_wp2_with fail
          go_ret;exact⟨rfl,c.O⟩
         ·go_wp2_with fail
          go_ret;exact⟨rfl,c.O⟩
        ·go_wp2_with fail
         go_ret;exact⟨rfl,c.O⟩
      ·cases n
       ·cases s
        ·go_wp2_with fail
         go_ret;exact⟨rfl,c.O⟩
        ·go_wp2_with fail
         go_ret;exact⟨rfl,c.O⟩
       ·go_wp2_with fail
        go_ret;exact⟨rfl,c.O⟩
theorem dy.at_{w:World}{F:Nat->Prop}{A:Option Addr}{d:List bI}(e:dy w F A d){k:Nat}{x:bI}(c:d[k]?=some x):∃b o,A=some ⟨b,o,none⟩/\∀(j:Nat) (v:Value),(eJ x)[j]?=some v->w.cell? ⟨b,o+k*5+j,none⟩=some v:=by
 rcases e with⟨_,a⟩|⟨b,o,f,a⟩
 ·rw[a] at c;simp at c
 ·exact⟨b,o,f,(a k x c).2.2⟩
theorem dg.at_{w:World}{F:Nat->Prop}{A:Option Addr}{p:List ah}(e:dg w F A p){i:Nat}{x:ah}(d:p[i]?=some x):∃b o B c,A=some ⟨b,o,none⟩/\w.cell? ⟨b,o+i*3,none⟩=some (.int .i64 x.args)/\w.cell? ⟨b,o+i*3+1,none⟩=some (.int .i64 x.rg)/\w.cell? ⟨b,o+i*3+2,none⟩=some (.slice B x.ops.length c)/\dy w F B x.ops:=by
 rcases e with⟨_,a⟩|⟨b,o,f,a⟩
 ·rw[a] at d;simp at d
 ·obtain⟨_,_,g,j,B,c,k,l⟩:=a i x d
  exact⟨b,o,B,c,f,g,j,k,l⟩
theorem dy.U{w w':World}{F:Nat->Prop}{A:Option Addr}{a:List bI}(b:dy w F A a)(c:ac w w'):dy w' F A a:=b.kp c nG
theorem dg.U{w w':World}{F:Nat->Prop}{A:Option Addr}{p:List ah}(a:dg w F A p)(b:ac w w'):dg w' F A p:=a.kp b nG
def fO{α:Type}(pr:α->Bool):List α->Nat->Int
 | [],_=>-1
 |a :: l,k=>if pr a=true then(k:Int) else fO pr l (k+1)
theorem nf{α:Type}(c:α->Bool):∀(l:List α) (k:Nat),decide ((0:Int)<=fO c l k)=l.any c
 | [],k=>by simp[fO]
 |a :: l,k=>by
  unfold fO
  by_cases b:c a=true
  ·rw[yf b]
   simp[b]
  ·rw[yb b,nf c l (k+1)]
   simp[b]
def jW(o:bI):Prop:=(Lit.int .u8 o.k).wf=true
theorem CA(o:bI)(j:jW o)(w:World):Calls Tryz.prog 194 #[cR o] w λi w'=>i=.returned (.bool (!cF o))/\ac w w':=by
 obtain⟨f,c⟩:=eX (w.alloc (.cells #[.int .u8 o.k,.int .i64 o.d,.int .i64 o.a,.int .i64 o.b,.int .i64 o.n] 106));have e:=hD (vN o j);have m:ac w f:=by rw[c];exact(aa.refl _ w).alloc _
 have p:=hD m;have q:=hD c.symm;have g:ae f w.heap.size 106 #[.int .u8 o.k,.int .i64 o.d,.int .i64 o.a,.int .i64 o.b,.int .i64 o.n]:=by rw[c];exact bN
 generalize cF o=r at*;obtain⟨t,u,v,x,y⟩:=g.gE5;clear j c m g;unfold cR at e ⊢;go_enter Tryz.func194,Tryz.ntmps194;go_upto_region 1 with fail;rw[q.O];go_wp2_with fail;refine(e.O _).mono ?_;rintro i z ⟨rfl,l⟩;have s:=hD (p.O.trans l);clear l t u v x y;go_wp2_with fail;go_ret;exact⟨rfl,s.O⟩
theorem DX(A:Option Addr)(xs:List bI)(c:Nat)(w:World)(F:Nat->Prop)(G:dy w F A xs)(u:xs.length<=1000)(K:∀x∈xs,jW x):
 Calls Tryz.prog 219 #[.slice A xs.length c,.func (.func 194) #[] #[]] w λg w'=>g=.returned (.int .i64 (fO (λo=>!cF o) xs 0))/\ac w w':=by
 obtain⟨r,B⟩:=eX (fO (λo=>!cF o) xs 0);rw[<-B];have S:=hD B;have Q:=hD G;have T:=hD K;obtain⟨n,z⟩:=eX xs.length;rw[<-z] at u ⊢;have C:=hD z;have R:=hD u;clear B G z u K;go_enter Tryz.func219,Tryz.ntmps219;go_wp2_with fail
 go_loopw [8] (λi wr=>∃k:Nat,k<=n/\i=.int .i64 k/\fO (λo=>!cF o) (xs.drop k) k=r/\ac w wr) (λi _=>n-(intOf i).toNat)
 case atStart=>exact⟨0,yx _,rfl,S.O.symm,oR⟩
 case round=>
  obtain⟨k,X,rfl,f,m⟩:=hrel
  by_cases e:k<n
  ·have a0:(0:Int)<=(k:Int):=dB k
   have W:(k:Int)<(n:Int):=cy e;have v:k<xs.length:=by rw[<-C.O];exact e
   have H:xs[k]?=some xs[k]:=gG v;have L:=T.O xs[k] (yN v);rw[yM v] at f;unfold fO at f;generalize xs[k] =y at*
   (obtain⟨b,o,V,j⟩:=(Q.O.U m).at_ H;subst V;have Y:=j 0 _ rfl;have a1:=j 1 _ rfl;have a2:=j 2 _ rfl;have a3:=j 3 _ rfl;have a4:=j 4 _ rfl;(rw[yW] at Y);clear j)
   obtain⟨E,t⟩:=eX ((λo=>!cF o) y:Bool);have p:(if E=true then(k:Int) else fO (λo=>!cF o) (xs.drop (k+1)) (k+1))=r:=by rw[t];exact f
   have q:=(show Hd (Calls Tryz.prog 194 (#[.agg #[.int .u8 y.k,.int .i64 y.d,.int .i64 y.a,.int .i64 y.b,.int .i64 y.n]]) wr λg w'=>g=.returned (.bool ((λo=>!cF o) y))/\ac wr w') from hD (CA y L wr))
   rw[<-t] at q;have N:wrap64 ((k:Int)+1)=(k:Int)+1:=cG e R.O;have s:=hD m;clear f m t H L;go_wp2_with fail;refine q.O.mono ?_;rintro g Z ⟨rfl,P⟩;have D:=hD (s.O.trans P);clear P q
   cases E
   ·have l:Hd (fO (λo=>!cF o) (xs.drop (k+1)) (k+1)=r):=hD p
    clear p;go_wp2_with fail;go_roundw
    case rel=>exact⟨k+1,e,by first|exact cK k|exact cH N,l.O,D.O⟩
    case measure=>first|exact au rfl e|exact au N e
   ·have l:Hd ((k:Int)=r):=hD p
    clear p;go_wp2_with fail;go_ret;exact⟨by rw[<-l.O];rfl,D.O⟩
  ·have W:¬(k:Int)<(n:Int):=λg=>e (yB.1 g)
   have:k=n:=yT X (yA e);subst this;rw[C.O,zq] at f;have l:=hD f;have s:=hD m;clear f m;go_wp2_with fail;go_ret;exact⟨by rw[<-l.O];rfl,s.O⟩
theorem DU(A:Option Addr)(xs:List bI)(c:Nat)(w:World)(F:Nat->Prop)(b:dy w F A xs)(d:xs.length<=1000)(e:∀x∈xs,jW x):
 Calls Tryz.prog 193 #[.slice A xs.length c,.func (.func 194) #[] #[]] w λa w'=>a=.returned (.bool (xs.any (λo=>!cF o)))/\ac w w':=by
 have g:=hD (DX A xs c w F b d e);rw[<-nf _ xs 0];generalize fO (λo=>!cF o) xs 0=r at*;generalize xs.length=n at*;clear b d e;go_enter Tryz.func193,Tryz.ntmps193;go_wp2_with fail;refine g.O.mono ?_;rintro a j ⟨rfl,f⟩;have i:=hD f;clear f;go_wp2_with fail;go_ret;exact⟨rfl,i.O⟩
def fZ(x:ah):Bool:=!(co x.args&&co x.rg)||decide (64<x.ops.length)||x.ops.any (λo=>!cF o)
def nU(x:ah):Prop:=x.ops.length<=1000/\∀o∈x.ops,jW o
def rX(x:ah)(B:Option Addr)(c:Nat):Value:=.agg #[.int .i64 x.args,.int .i64 x.rg,.slice B x.ops.length c]
theorem CB(x:ah)(B:Option Addr)(c:Nat)(F:Nat->Prop)(w:World)(C:dy w F B x.ops)(u:nU x):Calls Tryz.prog 191 #[rX x B c] w λb w'=>b=.returned (.bool (fZ x))/\ac w w':=by
 obtain⟨a,m⟩:=eX x.ops.length;obtain⟨f,l⟩:=eX (w.alloc (.cells #[.int .i64 x.args,.int .i64 x.rg,.slice B a c] 99));have G:ac w f:=by rw[l];exact(aa.refl _ w).alloc _
 have i:ae f w.heap.size 99 #[.int .i64 x.args,.int .i64 x.rg,.slice B a c]:=by rw[l];exact bN
 obtain⟨g,p⟩:=eX w.heap.size;rw[<-p] at i;obtain⟨r,t⟩:=eX ((co x.args&&co x.rg));obtain⟨q,s⟩:=eX (x.ops.any (λo=>!cF o));have E:fZ x=(!r||decide (64<a)||q):=by unfold fZ;rw[t,s,m]
 rw[E]
 have z:Hd (∀W j,fS W j .i64 [x.args,x.rg]->Calls Tryz.prog 192 #[.slice (some ⟨j,0,none⟩) 2 2] W λb w'=>b=.returned (.bool r)/\ac W w'):=hD λW j S=>by
  have:=vj j [x.args,x.rg] 2 W S (by simp);rw[show [x.args,x.rg].all co=r by rw[t];simp] at this;exact this
 have Q:Hd (∀W,ac w W->Calls Tryz.prog 193 #[.slice B a c,.func (.func 194) #[] #[]] W λb w'=>b=.returned (.bool q)/\ac W w'):=hD λW T=>by
  have:=DU B x.ops c W F (C.U T) u.1 u.2;rw[<-m,<-s] at this;exact this
 have y:=hD i;have P:=hD G;have N:=hD p;have A:=hD l.symm;obtain⟨X,Y,Z⟩:=i.gE3;unfold rX;rw[<-m];clear C u m l G i p t s E;go_enter Tryz.func191,Tryz.ntmps191;go_upto_region 1 with fail;rw[A.O,<-N.O];clear A;go_wp2_with fail;refine(z.O _ _ (eA f .i64 [x.args,x.rg] _)).mono ?_;rintro b a0 ⟨rfl,H⟩;have v:=((aa.refl (λ_=>False) f).alloc (.cells #[.int .i64 x.args,.int .i64 x.rg] 3)).trans H;have e:=hD (P.O.trans v);have D:=v.J y.O nF;have L:=D.I 2;simp at L;clear H v D X Y Z z y
 cases r
 ·go_wp2_with fail
  go_ret;exact⟨rfl,e.O⟩
 ·by_cases k:64<a
  ·have V:decide ((64:Int)<(a:Int))=true:=yg (by omega)
   have d:decide (64<a)=true:=yg k;have n:=hD d;clear k d;go_wp2_with fail;go_ret;exact⟨by rw[n.O];rfl,e.O⟩
  ·have V:decide ((64:Int)<(a:Int))=false:=yd (by omega)
   have d:decide (64<a)=false:=yd k;have n:=hD d;clear k d;go_wp2_with fail;refine(Q.O _ e.O).mono ?_;rintro b a1 ⟨rfl,K⟩;have R:=hD (e.O.trans K);clear K L;go_wp2_with fail;go_ret;exact⟨by rw[n.O];rfl,R.O⟩
theorem Cq(A:Option Addr)(xs:List ah)(c:Nat)(w:World)(F:Nat->Prop)(D:dg w F A xs)(q:xs.length<=1000)(G:∀x∈xs,nU x):
 Calls Tryz.prog 221 #[.slice A xs.length c,.func (.func 191) #[] #[]] w λe w'=>e=.returned (.int .i64 (fO (fZ) xs 0))/\ac w w':=by
 obtain⟨r,u⟩:=eX (fO (fZ) xs 0);rw[<-u];have Q:=hD u;have N:=hD D;have R:=hD G;obtain⟨n,t⟩:=eX xs.length;rw[<-t] at q ⊢;have v:=hD t;have P:=hD q;clear u D t q G;go_enter Tryz.func221,Tryz.ntmps221;go_wp2_with fail
 go_loopw [8] (λi wr=>∃k:Nat,k<=n/\i=.int .i64 k/\fO (fZ) (xs.drop k) k=r/\ac w wr) (λi _=>n-(intOf i).toNat)
 case atStart=>exact⟨0,yx _,rfl,Q.O.symm,oR⟩
 case round=>
  obtain⟨k,W,rfl,d,g⟩:=hrel
  by_cases a:k<n
  ·have Y:(0:Int)<=(k:Int):=dB k
   have V:(k:Int)<(n:Int):=cy a;have s:k<xs.length:=by rw[<-v.O];exact a
   have E:xs[k]?=some xs[k]:=gG s;have H:=R.O xs[k] (yN s);rw[yM s] at d;unfold fO at d;generalize xs[k] =y at*
   (obtain⟨b,o,B,c',S,Z,a0,a1,T⟩:=(N.O.U g).at_ E;subst S)
   obtain⟨C,p⟩:=eX ((fZ) y:Bool);have j:(if C=true then(k:Int) else fO (fZ) (xs.drop (k+1)) (k+1))=r:=by rw[p];exact d
   have l:=(show Hd (Calls Tryz.prog 191 (#[.agg #[.int .i64 y.args,.int .i64 y.rg,.slice B y.ops.length c']]) wr λe w'=>e=.returned (.bool ((fZ) y))/\ac wr w') from hD (CB y B c' F wr T H))
   rw[<-p] at l;have K:wrap64 ((k:Int)+1)=(k:Int)+1:=cG a P.O;have m:=hD g;clear d g p E H;go_wp2_with fail;refine l.O.mono ?_;rintro e X ⟨rfl,L⟩;have z:=hD (m.O.trans L);clear L l
   cases C
   ·have f:Hd (fO (fZ) (xs.drop (k+1)) (k+1)=r):=hD j
    clear j;go_wp2_with fail;go_roundw
    case rel=>exact⟨k+1,a,by first|exact cK k|exact cH K,f.O,z.O⟩
    case measure=>first|exact au rfl a|exact au K a
   ·have f:Hd ((k:Int)=r):=hD j
    clear j;go_wp2_with fail;go_ret;exact⟨by rw[<-f.O];rfl,z.O⟩
  ·have V:¬(k:Int)<(n:Int):=λe=>a (yB.1 e)
   have:k=n:=yT W (yA a);subst this;rw[v.O,zq] at d;have f:=hD d;have m:=hD g;clear d g;go_wp2_with fail;go_ret;exact⟨by rw[<-f.O];rfl,m.O⟩
theorem Cm(A:Option Addr)(xs:List ah)(c:Nat)(w:World)(F:Nat->Prop)(b:dg w F A xs)(d:xs.length<=1000)(e:∀x∈xs,nU x):
 Calls Tryz.prog 196 #[.slice A xs.length c,.func (.func 191) #[] #[]] w λa w'=>a=.returned (.bool (xs.any (fZ)))/\ac w w':=by
 have g:=hD (Cq A xs c w F b d e);rw[<-nf _ xs 0];generalize fO (fZ) xs 0=r at*;generalize xs.length=n at*;clear b d e;go_enter Tryz.func196,Tryz.ntmps196;go_wp2_with fail;refine g.O.mono ?_;rintro a j ⟨rfl,f⟩;have i:=hD f;clear f;go_wp2_with fail;go_ret;exact⟨rfl,i.O⟩
def ig(p:List ah):Bool:=decide (p.length<=16)&& !(p.any fZ)
def aP(p:List ah)(A:Option Addr)(c:Nat):Value:=.agg #[.slice A p.length c]
theorem BY(p:List ah)(A:Option Addr)(c:Nat)(F:Nat->Prop)(w:World)(v:dg w F A p)(z:p.length<=1000)(B:∀x∈p,nU x):Calls Tryz.prog 149 #[aP p A c] w λd w'=>d=.returned (.bool (ig p))/\ac w w':=by
 obtain⟨n,i⟩:=eX p.length;obtain⟨a,f⟩:=eX (w.alloc (.cells #[.slice A n c] 24));have l:ac w a:=by rw[f];exact(aa.refl _ w).alloc _
 have u:ae a w.heap.size 24 #[.slice A n c]:=by rw[f];exact bN
 have m:=u.I 0;simp at m;obtain⟨g,j⟩:=eX w.heap.size;rw[<-j] at m;obtain⟨q,k⟩:=eX (p.any fZ);have y:ig p=(decide (n<=16)&& !q):=by unfold ig;rw[i,k]
 rw[y]
 have o:Hd (Calls Tryz.prog 196 #[.slice A n c,.func (.func 191) #[] #[]] a λd w'=>d=.returned (.bool q)/\ac a w'):=hD (by
  have:=Cm A p c a F (v.U l) z B;rw[<-i,<-k] at this;exact this)
 have s:=hD l;have r:=hD j;have t:=hD f.symm;unfold aP;rw[<-i];clear v z B i f l u j k y
 by_cases e:n<=16
 ·have E:decide ((n:Int)<=16)=true:=yg (by omega)
  have b:decide (n<=16)=true:=yg e;rw[b];clear e b;go_enter Tryz.func149,Tryz.ntmps149;go_upto_region 1 with fail;rw[t.O,<-r.O];go_wp2_with fail;refine o.O.mono ?_;rintro d G ⟨rfl,C⟩;have D:=hD (s.O.trans C);clear C m o;go_wp2_with fail;go_ret;exact⟨by simp,D.O⟩
 ·have E:decide ((n:Int)<=16)=false:=yd (by omega)
  have b:decide (n<=16)=false:=yd e;rw[b];clear e b;go_enter Tryz.func149,Tryz.ntmps149;go_upto_region 1 with fail;rw[t.O,<-r.O];go_wp2_with fail;go_ret;exact⟨rfl,s.O⟩
def bg(e0:Int)(b:Bool)(e:Int):Int:=if e0=0/\b=false then e else e0
def aU(e fn op:Int):Array Value:=#[.int .i64 e,.int .i64 fn,.int .i64 op]
theorem cc(g:Nat)(c fn k:Int)(b:Bool)(d:Int)(w:World)(e:ae w g 220 (aU c fn k)):
 Calls Tryz.prog 150 #[.pointer (some ⟨g,0,none⟩),.bool b,.int .i64 d] w λj w'=>j=.returned (.tuple #[])/\ae w' g 220 (aU (bg c b d) fn k)/\aa (λb=>b=g) w w':=by
 have l:=e.I 0;have m:=e.fz 0;simp[aU] at l;have i:=hD e
 by_cases f:c=0
 ·subst f
  cases b
  ·have a:bg 0 false d=d:=rfl
   rw[a];clear e a;go_enter Tryz.func150,Tryz.ntmps150;go_wp2_with fail
   go_end0
   exact⟨rfl,i.O.s_ 0 _,af _ _ _ _⟩
  ·have a:bg 0 true d=0:=rfl
   rw[a];clear e a;go_enter Tryz.func150,Tryz.ntmps150;go_wp2_with fail
   go_end0
   exact⟨rfl,i.O,oR⟩
 ·have a:bg c b d=c:=yb (λj=>f j.1)
  rw[a];have n:(c==0)=false:=bF f;clear e a f;go_enter Tryz.func150,Tryz.ntmps150;go_wp2_with fail
  go_end0
  exact⟨rfl,i.O,oR⟩
def ep(regs:Int)(xs:List Int):Bool:=!(xs.any λx=>decide (regs<=x))
theorem jO(regs:Int)(g:Nat)(xs:List Int)(c:Nat)(w:World)(k:fS w g .i64 xs)(m:xs.length<=1000):
 Calls Tryz.prog 197 #[.int .i64 regs,.slice (some ⟨g,0,none⟩) xs.length c] w λj w'=>j=.returned (.bool (ep regs xs))/\ac w w':=by
 obtain⟨b,a⟩:=eX (w.alloc (.cells #[.int .i64 regs] 3));have e:ac w b:=by rw[a];exact(aa.refl _ w).alloc _
 have i:ae b w.heap.size 3 #[.int .i64 regs]:=by rw[a];exact bN
 have f:=hD (Aa g xs c b (k.kp e) m regs w.heap.size (i.I 0));obtain⟨r,d⟩:=eX (xs.any λx=>decide (regs<=x));have l:ep regs xs= !r:=by unfold ep;rw[d]
 rw[l];rw[<-d] at f;have p:=hD e;have q:=hD a.symm;generalize xs.length=n at*;clear k m d l e i a;go_enter Tryz.func197,Tryz.ntmps197;go_upto_region 1 with fail;rw[q.O];go_wp2_with fail;refine f.O.mono ?_;rintro j t ⟨rfl,o⟩;have s:=hD (p.O.trans o);clear o;go_wp2_with fail;go_ret;exact⟨rfl,s.O⟩
def eD(p:List ah)(x:ah)(o:bI):Int:=
 if o.k=12 then
  (let e:=bg (bg 0 (ep x.rg [o.d]) 111) (decide (0<=o.n/\o.n<p.length)) 112
  if e=0 then bg 0 (decide ((bG p o.n).args=0\/o.a+(bG p o.n).args<=x.rg)) 111 else e)
 else if o.k=10 then bg 0 (decide (0<=o.n/\o.n<x.ops.length)) 112
 else if o.k=11 then bg (bg 0 (ep x.rg [o.a]) 111) (decide (0<=o.n/\o.n<x.ops.length)) 112
 else if o.k=1 then bg 0 (ep x.rg [o.d]) 111
 else if o.k=2 then bg 0 (ep x.rg [o.d,o.a]) 111
 else if o.k=14 then bg 0 (ep x.rg [o.a]) 111
 else if o.k=13 then 0
 else bg 0 (ep x.rg [o.d,o.a,o.b]) 111
theorem vu{a y:Int}(b:0<=a/\a<=16)(c:0<=y/\y<=16):wrap64 (a+y)=a+y:=by unfold wrap64;omega
theorem Bo(p:List ah)(x:ah)(o:bI)(A B:Option Addr)(c aE g:Nat)(fn V:Int)(F:Nat->Prop)(w:World)(br:ae w g 220 (aU 0 fn V))(c7:dg w F A p)(c9:∀b,F b->b≠g)
 (G:1<=o.k/\o.k<=14) (cb:0<=o.a/\o.a<=16) (cd:∀y∈p,0<=y.args/\y.args<=16):
 Calls Tryz.prog 151 #[.pointer (some ⟨g,0,none⟩),aP p A c,rX x B aE,cR o] w λe w'=>e=.returned (.tuple #[])/\ae w' g 220 (aU (eD p x o) fn V)/\aa (λb=>b=g) w w':=by
 obtain⟨b0,L⟩:=eX (eD p x o);rw[<-L];obtain⟨n,bv⟩:=eX p.length;obtain⟨a5,bt⟩:=eX x.ops.length;obtain⟨ba,b2⟩:=eX (w.alloc (.cells #[.slice A n c] 24));obtain⟨b7,bk⟩:=eX (ba.alloc (.cells #[.int .i64 x.args,.int .i64 x.rg,.slice B a5 aE] 99));obtain⟨z,bo⟩:=eX (b7.alloc (.cells #[.int .u8 o.k,.int .i64 o.d,.int .i64 o.a,.int .i64 o.b,.int .i64 o.n] 106));have cf:ac w ba:=by rw[b2];exact(aa.refl _ w).alloc _
 have bx:ac ba b7:=by rw[bk];exact oR.alloc _
 have bq:ac b7 z:=by rw[bo];exact oR.alloc _
 have bp:ac w z:=(cf.trans bx).trans bq;obtain⟨a7,b3⟩:=eX w.heap.size;have c6:ae z a7 24 #[.slice A n c]:=bq.J (bx.J (by rw[b2,b3];exact bN) nF) nF;have c4:ae z (a7+1) 99 #[.int .i64 x.args,.int .i64 x.rg,.slice B a5 aE]:=bq.J (by rw[bk];have:=ae.new ba 99 #[.int .i64 x.args,.int .i64 x.rg,.slice B a5 aE];rw[show ba.heap.size=a7+1 by rw[b2,b3];simp] at this;exact this) nF;have c5:ae z (a7+1+1) 106 #[.int .u8 o.k,.int .i64 o.d,.int .i64 o.a,.int .i64 o.b,.int .i64 o.n]:=by rw[bo];have:=ae.new b7 106 #[.int .u8 o.k,.int .i64 o.d,.int .i64 o.a,.int .i64 o.b,.int .i64 o.n];rw[show b7.heap.size=a7+1+1 by rw[bk,b2,b3];simp] at this;exact this
 have cn:g<a7:=by rw[b3];exact br.lt
 have E:Hd (∀W,aa (λb=>b=g) z W->W.cell? ⟨a7,0,none⟩=some (.slice A n c)/\W.cell? ⟨a7+1,0,none⟩=some (.int .i64 x.args)/\W.cell? ⟨a7+1,1,none⟩=some (.int .i64 x.rg)/\W.cell? ⟨a7+1,2,none⟩=some (.slice B a5 aE)/\
  W.cell? ⟨a7+1+1,0,none⟩=some (.int .u8 o.k)/\W.cell? ⟨a7+1+1,1,none⟩=some (.int .i64 o.d)/\W.cell? ⟨a7+1+1,2,none⟩=some (.int .i64 o.a)/\W.cell? ⟨a7+1+1,3,none⟩=some (.int .i64 o.b)/\W.cell? ⟨a7+1+1,4,none⟩=some (.int .i64 o.n)):=hD λW bf=>by
  have cv:=bf.J c6 (by omega);have bz:=bf.J c4 (by omega);have bn:=bf.J c5 (by omega);exact⟨cv.I 0,bz.I 0,bz.I 1,bz.I 2,bn.I 0,bn.I 1,bn.I 2,bn.I 3,bn.I 4⟩
 have cg:Hd (∀W,aa (λb=>b=g) z W->dg W F A p):=hD λW bf=>(c7.U bp).kp bf c9
 have f:=hD (bp.J br nF);have Z:=hD bp;have b5:=hD (aI bv bt);have ch:=hD b3;have c0:=hD (aI cb cd);have c2:=hD (show(((w.alloc (.cells #[.slice A n c] 24)).alloc (.cells #[.int .i64 x.args,.int .i64 x.rg,.slice B a5 aE] 99)).alloc (.cells #[.int .u8 o.k,.int .i64 o.d,.int .i64 o.a,.int .i64 o.b,.int .i64 o.n] 106))=z by rw[bo,bk,b2]);unfold aP rX cR;rw[<-bv,<-bt];have ab:Hd (aa (λb=>b=g) z z):=hD oR;obtain⟨l,q,r,s,j,t,u,v,m⟩:=E.O z ab.O;clear br c7 c9 cd cb b2 bk bo cf bx bq bp c6 c4 c5 cn b3 bv bt;have cp:o.k=1\/o.k=2\/o.k=14\/o.k=13\/o.k=10\/o.k=11\/o.k=12\/(3<=o.k/\o.k<=9):=by omega
 clear G;unfold eD at L;go_enter Tryz.func151,Tryz.ntmps151;go_upto_region 1 with fail;rw[c2.O,<-ch.O];clear c2
 rcases cp with G|G|G|G|G|G|G|G
 ·rw[yb (by omega),yb (by omega),yb (by omega),yf G] at L
  have i:=hD L;rw[G] at E j;clear L G;go_wp2_with fail;refine(jO x.rg _ [o.d] _ _ (eA _ .i64 [o.d] _) (by simp)).mono ?_;rintro e a2 ⟨rfl,a6⟩;have T:=((aa.refl (λ_=>False) z).alloc (.cells ([o.d].map (Value.int .i64)).toArray 3)).trans a6;have a1:Hd (aa (λb=>b=g) z a2):=hD ((ab).O.trans (T.mono λ_ e=>e.elim));have a0:=hD (T.J (f.O) nF);clear a6 T f l q r s j t u v m;obtain⟨l,q,r,s,j,t,u,v,m⟩:=E.O _ a1.O;generalize a3:ep x.rg [o.d] =ai;rw[a3] at i;go_wp2_with fail;refine(cc g 0 fn V _ 111 a2 a0.O).mono ?_;rintro e X ⟨rfl,N,Q⟩;have S:Hd (aa (λb=>b=g) z X):=hD (a1.O.trans Q);have f:=hD N;clear N Q a0 l q r s j t u v m a3;obtain⟨l,q,r,s,j,t,u,v,m⟩:=E.O _ S.O;go_wp2_with fail
  go_end0
  refine⟨rfl,?_,(Z.O.mono λ_ e=>e.elim).trans (S).O⟩;rw[i.O];exact f.O
 ·rw[yb (by omega),yb (by omega),yb (by omega),yb (by omega),yf G] at L
  have i:=hD L;rw[G] at E j;clear L G;go_wp2_with fail;refine(jO x.rg _ [o.d,o.a] _ _ (eA _ .i64 [o.d,o.a] _) (by simp)).mono ?_;rintro e a2 ⟨rfl,a6⟩;have T:=((aa.refl (λ_=>False) z).alloc (.cells ([o.d,o.a].map (Value.int .i64)).toArray 3)).trans a6;have a1:Hd (aa (λb=>b=g) z a2):=hD ((ab).O.trans (T.mono λ_ e=>e.elim));have a0:=hD (T.J (f.O) nF);clear a6 T f l q r s j t u v m;obtain⟨l,q,r,s,j,t,u,v,m⟩:=E.O _ a1.O;generalize a3:ep x.rg [o.d,o.a] =ai;rw[a3] at i;go_wp2_with fail;refine(cc g 0 fn V _ 111 a2 a0.O).mono ?_;rintro e X ⟨rfl,N,Q⟩;have S:Hd (aa (λb=>b=g) z X):=hD (a1.O.trans Q);have f:=hD N;clear N Q a0 l q r s j t u v m a3;obtain⟨l,q,r,s,j,t,u,v,m⟩:=E.O _ S.O;go_wp2_with fail
  go_end0
  refine⟨rfl,?_,(Z.O.mono λ_ e=>e.elim).trans (S).O⟩;rw[i.O];exact f.O
 ·rw[yb (by omega),yb (by omega),yb (by omega),yb (by omega),yb (by omega),yf G] at L
  have i:=hD L;rw[G] at E j;clear L G;go_wp2_with fail;refine(jO x.rg _ [o.a] _ _ (eA _ .i64 [o.a] _) (by simp)).mono ?_;rintro e a2 ⟨rfl,a6⟩;have T:=((aa.refl (λ_=>False) z).alloc (.cells ([o.a].map (Value.int .i64)).toArray 3)).trans a6;have a1:Hd (aa (λb=>b=g) z a2):=hD ((ab).O.trans (T.mono λ_ e=>e.elim));have a0:=hD (T.J (f.O) nF);clear a6 T f l q r s j t u v m;obtain⟨l,q,r,s,j,t,u,v,m⟩:=E.O _ a1.O;generalize a3:ep x.rg [o.a] =ai;rw[a3] at i;go_wp2_with fail;refine(cc g 0 fn V _ 111 a2 a0.O).mono ?_;rintro e X ⟨rfl,N,Q⟩;have S:Hd (aa (λb=>b=g) z X):=hD (a1.O.trans Q);have f:=hD N;clear N Q a0 l q r s j t u v m a3;obtain⟨l,q,r,s,j,t,u,v,m⟩:=E.O _ S.O;go_wp2_with fail
  go_end0
  refine⟨rfl,?_,(Z.O.mono λ_ e=>e.elim).trans (S).O⟩;rw[i.O];exact f.O
 ·rw[yb (by omega),yb (by omega),yb (by omega),yb (by omega),yb (by omega),yb (by omega),yf G] at L
  have i:=hD L;rw[G] at E j;clear L G;go_wp2_with fail
  go_end0
  refine⟨rfl,?_,(Z.O.mono λ_ e=>e.elim).trans (ab).O⟩;rw[i.O];exact f.O
 ·rw[yb (by omega),yf G,<-b5.O.2] at L
  have i:=hD L;rw[G] at E j;clear L G
  by_cases D:0<=o.n
  ·have an:decide (0<=o.n)=true:=yg D
   by_cases H:o.n<(a5:Int)
   ·have ar:decide (o.n<(a5:Int))=true:=yg H
    have C:decide (0<=o.n/\o.n<(a5:Int))=true:=yg ⟨D,H⟩;rw[C] at i;clear C D H;go_wp2_with fail;refine(cc g 0 fn V _ 112 z f.O).mono ?_;rintro e b9 ⟨rfl,N,Q⟩;have al:Hd (aa (λb=>b=g) z b9):=hD ((ab).O.trans Q);have f:=hD N;clear N Q l q r s j t u v m;obtain⟨l,q,r,s,j,t,u,v,m⟩:=E.O _ al.O;go_wp2_with fail
    go_end0
    refine⟨rfl,?_,(Z.O.mono λ_ e=>e.elim).trans (al).O⟩;rw[i.O];exact f.O
   ·have ar:decide (o.n<(a5:Int))=false:=yd H
    have C:decide (0<=o.n/\o.n<(a5:Int))=false:=yd (λe=>H e.2);rw[C] at i;clear C D H;go_wp2_with fail;refine(cc g 0 fn V _ 112 z f.O).mono ?_;rintro e b9 ⟨rfl,N,Q⟩;have al:Hd (aa (λb=>b=g) z b9):=hD ((ab).O.trans Q);have f:=hD N;clear N Q l q r s j t u v m;obtain⟨l,q,r,s,j,t,u,v,m⟩:=E.O _ al.O;go_wp2_with fail
    go_end0
    refine⟨rfl,?_,(Z.O.mono λ_ e=>e.elim).trans (al).O⟩;rw[i.O];exact f.O
  ·have an:decide (0<=o.n)=false:=yd D
   have C:decide (0<=o.n/\o.n<(a5:Int))=false:=yd (λe=>D e.1);rw[C] at i;clear C D;go_wp2_with fail;refine(cc g 0 fn V _ 112 z f.O).mono ?_;rintro e b9 ⟨rfl,N,Q⟩;have al:Hd (aa (λb=>b=g) z b9):=hD ((ab).O.trans Q);have f:=hD N;clear N Q l q r s j t u v m;obtain⟨l,q,r,s,j,t,u,v,m⟩:=E.O _ al.O;go_wp2_with fail
   go_end0
   refine⟨rfl,?_,(Z.O.mono λ_ e=>e.elim).trans (al).O⟩;rw[i.O];exact f.O
 ·rw[yb (by omega),yb (by omega),yf G,<-b5.O.2] at L
  have i:=hD L;rw[G] at E j;clear L G;go_wp2_with fail;refine(jO x.rg _ [o.a] _ _ (eA _ .i64 [o.a] _) (by simp)).mono ?_;rintro e a2 ⟨rfl,a6⟩;have T:=((aa.refl (λ_=>False) z).alloc (.cells ([o.a].map (Value.int .i64)).toArray 3)).trans a6;have a1:Hd (aa (λb=>b=g) z a2):=hD ((ab).O.trans (T.mono λ_ e=>e.elim));have a0:=hD (T.J (f.O) nF);clear a6 T f l q r s j t u v m;obtain⟨l,q,r,s,j,t,u,v,m⟩:=E.O _ a1.O;generalize a3:ep x.rg [o.a] =ai;rw[a3] at i;go_wp2_with fail;refine(cc g 0 fn V _ 111 a2 a0.O).mono ?_;rintro e X ⟨rfl,N,Q⟩;have S:Hd (aa (λb=>b=g) z X):=hD (a1.O.trans Q);have f:=hD N;clear N Q a0 l q r s j t u v m a3;obtain⟨l,q,r,s,j,t,u,v,m⟩:=E.O _ S.O
  by_cases D:0<=o.n
  ·have an:decide (0<=o.n)=true:=yg D
   by_cases H:o.n<(a5:Int)
   ·have ar:decide (o.n<(a5:Int))=true:=yg H
    have C:decide (0<=o.n/\o.n<(a5:Int))=true:=yg ⟨D,H⟩;rw[C] at i;clear C D H;go_wp2_with fail;refine(cc g (bg 0 ai 111) fn V _ 112 X f.O).mono ?_;rintro e Y ⟨rfl,P,R⟩;have K:Hd (aa (λb=>b=g) z Y):=hD ((S).O.trans R);have f:=hD P;clear P R l q r s j t u v m;obtain⟨l,q,r,s,j,t,u,v,m⟩:=E.O _ K.O;go_wp2_with fail
    go_end0
    refine⟨rfl,?_,(Z.O.mono λ_ e=>e.elim).trans (K).O⟩;rw[i.O];exact f.O
   ·have ar:decide (o.n<(a5:Int))=false:=yd H
    have C:decide (0<=o.n/\o.n<(a5:Int))=false:=yd (λe=>H e.2);rw[C] at i;clear C D H;go_wp2_with fail;refine(cc g (bg 0 ai 111) fn V _ 112 X f.O).mono ?_;rintro e Y ⟨rfl,P,R⟩;have K:Hd (aa (λb=>b=g) z Y):=hD ((S).O.trans R);have f:=hD P;clear P R l q r s j t u v m;obtain⟨l,q,r,s,j,t,u,v,m⟩:=E.O _ K.O;go_wp2_with fail
    go_end0
    refine⟨rfl,?_,(Z.O.mono λ_ e=>e.elim).trans (K).O⟩;rw[i.O];exact f.O
  ·have an:decide (0<=o.n)=false:=yd D
   have C:decide (0<=o.n/\o.n<(a5:Int))=false:=yd (λe=>D e.1);rw[C] at i;clear C D;go_wp2_with fail;refine(cc g (bg 0 ai 111) fn V _ 112 X f.O).mono ?_;rintro e Y ⟨rfl,P,R⟩;have K:Hd (aa (λb=>b=g) z Y):=hD ((S).O.trans R);have f:=hD P;clear P R l q r s j t u v m;obtain⟨l,q,r,s,j,t,u,v,m⟩:=E.O _ K.O;go_wp2_with fail
   go_end0
   refine⟨rfl,?_,(Z.O.mono λ_ e=>e.elim).trans (K).O⟩;rw[i.O];exact f.O
 ·rw[yf G,<-b5.O.1] at L
  have i:=hD L;rw[G] at E j;clear L G;go_wp2_with fail;refine(jO x.rg _ [o.d] _ _ (eA _ .i64 [o.d] _) (by simp)).mono ?_;rintro e a2 ⟨rfl,a6⟩;have T:=((aa.refl (λ_=>False) z).alloc (.cells ([o.d].map (Value.int .i64)).toArray 3)).trans a6;have a1:Hd (aa (λb=>b=g) z a2):=hD ((ab).O.trans (T.mono λ_ e=>e.elim));have a0:=hD (T.J (f.O) nF);clear a6 T f l q r s j t u v m;obtain⟨l,q,r,s,j,t,u,v,m⟩:=E.O _ a1.O;generalize a3:ep x.rg [o.d] =ai;rw[a3] at i;go_wp2_with fail;refine(cc g 0 fn V _ 111 a2 a0.O).mono ?_;rintro e X ⟨rfl,N,Q⟩;have S:Hd (aa (λb=>b=g) z X):=hD (a1.O.trans Q);have f:=hD N;clear N Q a0 l q r s j t u v m a3;obtain⟨l,q,r,s,j,t,u,v,m⟩:=E.O _ S.O
  cases ai
  ·have bm:bg 0 false 111=111:=rfl
   rw[bm] at f i;clear bm
   by_cases D:0<=o.n
   ·have an:decide (0<=o.n)=true:=yg D
    by_cases H:o.n<(n:Int)
    ·have ar:decide (o.n<(n:Int))=true:=yg H
     have C:decide (0<=o.n/\o.n<(n:Int))=true:=yg ⟨D,H⟩;rw[C] at i;clear C;clear D H;go_wp2_with fail;refine(cc g 111 fn V _ 112 X f.O).mono ?_;rintro e Y ⟨rfl,P,R⟩;have K:Hd (aa (λb=>b=g) z Y):=hD ((S).O.trans R);have f:=hD P;clear P R l q r s j t u v m;obtain⟨l,q,r,s,j,t,u,v,m⟩:=E.O _ K.O;have a4:bg 111 true 112=111:=rfl;rw[a4] at f i;clear a4;have a8:Hd (b0=111):=hD i.O;have ad:=f.O.I 0;simp[aU] at ad;clear i;have i:=a8;go_wp2_with fail
     go_end0
     refine⟨rfl,?_,(Z.O.mono λ_ e=>e.elim).trans (K).O⟩;rw[i.O];exact f.O
    ·have ar:decide (o.n<(n:Int))=false:=yd H
     have C:decide (0<=o.n/\o.n<(n:Int))=false:=yd (λe=>H e.2);rw[C] at i;clear C D H;go_wp2_with fail;refine(cc g 111 fn V _ 112 X f.O).mono ?_;rintro e Y ⟨rfl,P,R⟩;have K:Hd (aa (λb=>b=g) z Y):=hD ((S).O.trans R);have f:=hD P;clear P R l q r s j t u v m;obtain⟨l,q,r,s,j,t,u,v,m⟩:=E.O _ K.O;have a4:bg 111 false 112=111:=rfl;rw[a4] at f i;clear a4;have a8:Hd (b0=111):=hD i.O;have ad:=f.O.I 0;simp[aU] at ad;clear i;have i:=a8;go_wp2_with fail
     go_end0
     refine⟨rfl,?_,(Z.O.mono λ_ e=>e.elim).trans (K).O⟩;rw[i.O];exact f.O
   ·have an:decide (0<=o.n)=false:=yd D
    have C:decide (0<=o.n/\o.n<(n:Int))=false:=yd (λe=>D e.1);rw[C] at i;clear C D;go_wp2_with fail;refine(cc g 111 fn V _ 112 X f.O).mono ?_;rintro e Y ⟨rfl,P,R⟩;have K:Hd (aa (λb=>b=g) z Y):=hD ((S).O.trans R);have f:=hD P;clear P R l q r s j t u v m;obtain⟨l,q,r,s,j,t,u,v,m⟩:=E.O _ K.O;have a4:bg 111 false 112=111:=rfl;rw[a4] at f i;clear a4;have a8:Hd (b0=111):=hD i.O;have ad:=f.O.I 0;simp[aU] at ad;clear i;have i:=a8;go_wp2_with fail
    go_end0
    refine⟨rfl,?_,(Z.O.mono λ_ e=>e.elim).trans (K).O⟩;rw[i.O];exact f.O
  ·have bm:bg 0 true 111=0:=rfl
   rw[bm] at f i;clear bm
   by_cases D:0<=o.n
   ·have an:decide (0<=o.n)=true:=yg D
    by_cases H:o.n<(n:Int)
    ·have ar:decide (o.n<(n:Int))=true:=yg H
     have C:decide (0<=o.n/\o.n<(n:Int))=true:=yg ⟨D,H⟩;rw[C] at i;clear C;obtain⟨n',az⟩ :∃n':Nat,o.n=(n':Int):=ym D;have ce:p[n']?=some (bG p o.n):=by rw[<-(gk D (by rw[<-b5.O.1];exact H)).2,az,yo]
     have b4:=c0.O.2 (bG p o.n) (gk D (by rw[<-b5.O.1];exact H)).1;have ck:=hD az;have c1:=hD ce;have c3:=hD b4;have ci:Hd ((n':Int)<(n:Int)):=hD (by rw[<-az];exact H);clear D H az ce b4;go_wp2_with fail;refine(cc g 0 fn V _ 112 X f.O).mono ?_;rintro e Y ⟨rfl,P,R⟩;have K:Hd (aa (λb=>b=g) z Y):=hD ((S).O.trans R);have f:=hD P;clear P R l q r s j t u v m;obtain⟨l,q,r,s,j,t,u,v,m⟩:=E.O _ K.O;have a4:bg 0 true 112=0:=rfl;rw[a4] at f i;clear a4;have a8:Hd (b0=bg 0 (decide ((bG p o.n).args=0\/o.a+(bG p o.n).args<=x.rg)) 111):=hD i.O;have ad:=f.O.I 0;simp[aU] at ad;clear i;have i:=a8;clear a8;obtain⟨b,ds,cw,cB,c8,d4,cr,cs,_⟩:=(cg.O _ K.O).at_ c1.O;have d2:(0:Int)<=(n':Int):=dB n';have d3:=ci.O;have b4:=c3.O;have az:=ck.O;clear c1 c3;generalize (bG p o.n).args=a9 at*;rw[az] at m an ar;rw[c8] at l;clear cr cs c8 az
     by_cases bb:a9=0
     ·subst bb
      have am:decide ((0:Int)=0\/o.a+0<=x.rg)=true:=yg (.inl rfl);rw[am] at i;clear am;go_wp2_with fail;refine(cc g 0 fn V _ 111 Y f.O).mono ?_;rintro e b8 ⟨rfl,av,aw⟩;have b6:Hd (aa (λb=>b=g) z b8):=hD (K.O.trans aw);have f:=hD av;clear av aw;go_wp2_with fail
      go_end0
      refine⟨rfl,?_,(Z.O.mono λ_ e=>e.elim).trans (b6).O⟩;rw[i.O];exact f.O
     ·have d1:(a9==0)=false:=bF bb
      have cq:wrap64 (o.a+a9)=o.a+a9:=vu c0.O.1 b4;have d0:=(aR (o.a+a9)).trans cq
      by_cases b1:o.a+a9<=x.rg
      ·have cm:decide (o.a+a9<=x.rg)=true:=yg b1
       have am:decide (a9=0\/o.a+a9<=x.rg)=true:=yg (.inr b1);rw[am] at i;clear am bb b1 b4;go_wp2_with fail;refine(cc g 0 fn V _ 111 Y f.O).mono ?_;rintro e b8 ⟨rfl,av,aw⟩;have b6:Hd (aa (λb=>b=g) z b8):=hD (K.O.trans aw);have f:=hD av;clear av aw;go_wp2_with fail
       go_end0
       refine⟨rfl,?_,(Z.O.mono λ_ e=>e.elim).trans (b6).O⟩;rw[i.O];exact f.O
      ·have cm:decide (o.a+a9<=x.rg)=false:=yd b1
       have am:decide (a9=0\/o.a+a9<=x.rg)=false:=yd (λe=>e.elim bb b1);rw[am] at i;clear am bb b1 b4;go_wp2_with fail;refine(cc g 0 fn V _ 111 Y f.O).mono ?_;rintro e b8 ⟨rfl,av,aw⟩;have b6:Hd (aa (λb=>b=g) z b8):=hD (K.O.trans aw);have f:=hD av;clear av aw;go_wp2_with fail
       go_end0
       refine⟨rfl,?_,(Z.O.mono λ_ e=>e.elim).trans (b6).O⟩;rw[i.O];exact f.O
    ·have ar:decide (o.n<(n:Int))=false:=yd H
     have C:decide (0<=o.n/\o.n<(n:Int))=false:=yd (λe=>H e.2);rw[C] at i;clear C D H;go_wp2_with fail;refine(cc g 0 fn V _ 112 X f.O).mono ?_;rintro e Y ⟨rfl,P,R⟩;have K:Hd (aa (λb=>b=g) z Y):=hD ((S).O.trans R);have f:=hD P;clear P R l q r s j t u v m;obtain⟨l,q,r,s,j,t,u,v,m⟩:=E.O _ K.O;have a4:bg 0 false 112=112:=rfl;rw[a4] at f i;clear a4;have a8:Hd (b0=112):=hD i.O;have ad:=f.O.I 0;simp[aU] at ad;clear i;have i:=a8;go_wp2_with fail
     go_end0
     refine⟨rfl,?_,(Z.O.mono λ_ e=>e.elim).trans (K).O⟩;rw[i.O];exact f.O
   ·have an:decide (0<=o.n)=false:=yd D
    have C:decide (0<=o.n/\o.n<(n:Int))=false:=yd (λe=>D e.1);rw[C] at i;clear C D;go_wp2_with fail;refine(cc g 0 fn V _ 112 X f.O).mono ?_;rintro e Y ⟨rfl,P,R⟩;have K:Hd (aa (λb=>b=g) z Y):=hD ((S).O.trans R);have f:=hD P;clear P R l q r s j t u v m;obtain⟨l,q,r,s,j,t,u,v,m⟩:=E.O _ K.O;have a4:bg 0 false 112=112:=rfl;rw[a4] at f i;clear a4;have a8:Hd (b0=112):=hD i.O;have ad:=f.O.I 0;simp[aU] at ad;clear i;have i:=a8;go_wp2_with fail
    go_end0
    refine⟨rfl,?_,(Z.O.mono λ_ e=>e.elim).trans (K).O⟩;rw[i.O];exact f.O
 ·rw[yb (by omega),yb (by omega),yb (by omega),yb (by omega),yb (by omega),yb (by omega),yb (by omega)] at L
  have dk:(o.k==1)=false:=bF (by omega);have dr:(o.k==2)=false:=bF (by omega);have dl:(o.k==10)=false:=bF (by omega);have dm:(o.k==11)=false:=bF (by omega);have dn:(o.k==12)=false:=bF (by omega);have dp:(o.k==13)=false:=bF (by omega);have dq:(o.k==14)=false:=bF (by omega);have d5:¬o.k=1:=by omega
  have dd:¬o.k=2:=by omega
  have d7:¬o.k=10:=by omega
  have d8:¬o.k=11:=by omega
  have d9:¬o.k=12:=by omega
  have da:¬o.k=13:=by omega
  have db:¬o.k=14:=by omega
  have i:=hD L;clear L G;go_wp2_with fail;refine(jO x.rg _ [o.d,o.a,o.b] _ _ (eA _ .i64 [o.d,o.a,o.b] _) (by simp)).mono ?_;rintro e a2 ⟨rfl,a6⟩;have T:=((aa.refl (λ_=>False) z).alloc (.cells ([o.d,o.a,o.b].map (Value.int .i64)).toArray 3)).trans a6;have a1:Hd (aa (λb=>b=g) z a2):=hD ((ab).O.trans (T.mono λ_ e=>e.elim));have a0:=hD (T.J (f.O) nF);clear a6 T f l q r s j t u v m;obtain⟨l,q,r,s,j,t,u,v,m⟩:=E.O _ a1.O;generalize a3:ep x.rg [o.d,o.a,o.b] =ai;rw[a3] at i;go_wp2_with fail;refine(cc g 0 fn V _ 111 a2 a0.O).mono ?_;rintro e X ⟨rfl,N,Q⟩;have S:Hd (aa (λb=>b=g) z X):=hD (a1.O.trans Q);have f:=hD N;clear N Q a0 l q r s j t u v m a3;obtain⟨l,q,r,s,j,t,u,v,m⟩:=E.O _ S.O;go_wp2_with fail
  go_end0
  refine⟨rfl,?_,(Z.O.mono λ_ e=>e.elim).trans (S).O⟩;rw[i.O];exact f.O
end
end Go.Proofs.YtmdocplknceilaaGreat
