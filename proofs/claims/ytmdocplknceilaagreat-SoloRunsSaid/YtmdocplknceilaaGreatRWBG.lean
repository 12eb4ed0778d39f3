import Derived.Test.YtmdocplknceilaaGreatRWBE
import Derived.Test.YtmdocplknceilaaGreatRWAN
import Derived.Test.YtmdocplknceilaaGreatSort
set_option linter.all false
set_option maxRecDepth 100000
set_option maxHeartbeats 4000000
namespace Go.Proofs.YtmdocplknceilaaGreat
section
open Go.RowKit Go.Maps Go.Sort
theorem vy(p q:List UInt8):decide (kZ (sB p) (sB q)<0)=ltStr p q:=by
 unfold kZ sB;rw[bytesLess_eq,ByteArray.toList_mk,ByteArray.toList_mk];unfold ltStr
 by_cases h:p<q
 ·simp[h]
 ·simp only[h,decide_false,Bool.false_or,zB,Yi]
  split<;>decide
theorem tH(x y:iG):ltOf tG x y=(decide (x.n.job<y.n.job)||(decide (x.n.job=y.n.job)&&ltStr x.n.M y.n.M)):=by
 unfold ltOf tG;rw[<-vy];unfold sH tJ
 by_cases h1:x.n.job<y.n.job
 ·simp[h1]
 ·by_cases h2:y.n.job<x.n.job
  ·have h3:¬x.n.job=y.n.job:=by omega
   simp[h1,h2,h3]
  ·have h3:x.n.job=y.n.job:=by omega
   simp[h3]
theorem Gz:SWO (ltOf tG) where
 irrefl x:=by
  rw[tH,swo_ltStr.irrefl];simp
 trans x y z h1 h2:=by
  rw[tH] at*;simp only[Bool.or_eq_true,zm,zR] at*
  rcases h1 with h1|⟨h1,k1⟩<;>rcases h2 with h2|⟨h2,k2⟩
  ·exact .inl (by omega)
  ·exact .inl (by omega)
  ·exact .inl (by omega)
  ·exact .inr ⟨by omega,swo_ltStr.trans _ _ _ k1 k2⟩
 ntrans x y z h1 h2:=by
  rw[tH] at*;simp only[Bool.or_eq_false_iff,Bool.and_eq_false_iff,decide_eq_false_iff_not] at*;obtain⟨a1,b1⟩:=h1;obtain⟨a2,b2⟩:=h2;refine⟨by omega,?_⟩
  rcases b1 with b1|b1
  ·exact .inl (by omega)
  ·rcases b2 with b2|b2
   ·exact .inl (by omega)
   ·exact .inr (swo_ltStr.ntrans _ _ _ b1 b2)
theorem CM{f:Nm->Option Value}{key v:Value}(h:eE f key=some v):∃n,key=aW n/\f n=some v:=by
 unfold eE at h;split at h
 ·rename_i hn
  exact⟨_,Classical.choose_spec hn,h⟩
 ·cases h
theorem EF:∃i z,Tryz.prog.info? 60=some i/\i.zero=some z/\i.size=10/\i.bytes=112/\z.cells.size=10:=by
 have h:(Tryz.prog.info? 60).map (λi=>(i.zero.map λz=>z.cells.size,i.size,i.bytes))=some (some 10,10,112):=by kernel_rfl
 cases hi:Tryz.prog.info? 60 with
 |none=>rw[hi] at h;cases h
 |some i=>
  rw[hi] at h;simp only[yU,yC,yP] at h
  cases hz:i.zero with
  |none=>rw[hz] at h;cases h.1
  |some z=>
   rw[hz] at h;exact⟨i,z,rfl,hz,h.2.1,h.2.2,yz h.1⟩
theorem jP{α:Type}{enc:α->List Value}{ops:Array Oper}{rest:List Oper}{o:Oper}{a:Act}{W:World}{Q:Exit->Act->World->Prop}{q:Nat}(hgd:o.guard=none)(s x:Operand)(ST T:TypeId)(k bb base:Nat)
 (ho:o.op=.call {callee:=.builtin .append,args:=#[s,x],argTypes:=#[ST,ST]}) (ht:Tryz.prog.underlying ST=some (.slice T)) (hinfo:∃i z,Tryz.prog.info? T=some i/\i.zero=some z/\i.size=k/\i.bytes=bb/\z.cells.size=k) (hk0:0<k) (hbb:bb<=1000)
 (v1:Value) (hs:a.eval s=v1) (hx:a.eval x=.slice (some ⟨q,0,none⟩) 1 1) (l:List α) (y:α) (h1:W.ownsRow base T k v1 l.length (l.flatMap enc)) (hb:ae W q T (enc y).toArray) (hc:∀u∈enc y,u.oneCell'=true) (hk:(enc y).length=k) (hn:l.length<=1000000) (hbase:base<=W.heap.size)
 (hK:∀v' w',w'.ownsRow base T k v' (l++ [y]).length ((l++ [y]).flatMap enc)->aa (λb=>v1.ownBlock=some b) W w'->(∀b,v'.ownBlock=some b->v1.ownBlock=some b\/W.heap.size<=b)->wpList Tryz.prog ops Q rest (a.put o.dst v') w'):wpList Tryz.prog ops Q (o :: rest) a W:=by
 refine wpList_plain hgd λ_ hK'=>?_
 obtain⟨i,z,hi,hz,hs1,hb1,hzs⟩:=hinfo
 have hbytes:(l.length+1)*bb<=140737488355328:=by
  have:(l.length+1)*bb<=1000001*1000:=Nat.mul_le_mul (by omega) hbb;omega
 refine iR W s x ST ho base T i z k bb ht hi hz hs1 hb1 hzs hk0 v1 l.length (l.flatMap enc) hs h1 W.heap.size (some ⟨q,0,none⟩) 1 1 (enc y) hx ⟨by rw[hk,Nat.one_mul],λ_=>⟨⟨q,0,none⟩,rfl,hb.lt,λj u hu=>?_⟩⟩ hc (by unfold maxLen;omega) hbytes hbase (λv' w' q1 q2 q3=>hK' _ _ (hK v' w' ?_ ((aa.refl _ W).grown q2 (λk e=>.inl e)) λb hb=>?_))
 ·rw[bg,yq,hb.I,zi]
  exact hu
 ·rw[yk,zL]
  simpa using q1
 ·rcases q3 with e|e
  ·exact .inl (by rw[<-e];exact hb)
  ·rw[e] at hb
   exact .inr (zl (yz hb))
theorem uG(x:iG):∀u∈iL x,u.oneCell'=true:=by
 intro u hu;simp[iL,jo] at hu
 rcases hu with rfl|rfl|rfl|rfl|rfl|rfl|rfl|rfl|rfl|rfl<;>rfl
theorem nL(x:iG):(iL x).length=10:=rfl
theorem jx{w:World}{base size n:Nat}{e:TypeId}{v:Value}{xs:List Value}(h:w.ownsRow base e size v n xs):∃A c,v=.slice A n c:=by
 rcases h.2 with⟨rfl,rfl⟩|⟨g,cap,cur,rfl,_⟩
 ·exact⟨none,0,rfl⟩
 ·exact⟨some ⟨g,0,none⟩,cap,rfl⟩
def te(w w':World)(rows:Nm->Option aG)(e:Ending):Prop:=∃(v:Value) (l:List iG),e=.returned v/\w'.ownsRow w.heap.size 60 10 v l.length (l.flatMap iL)/\ac w w'/\(l.map (·.n)).Nodup/\(∀x∈l,rows x.n=some x.r)/\(∀n,rows n≠none->n∈l.map (·.n))
structure Ej(W1 wr:World)(mb ri base:Nat)(rows:Nm->Option aG)(rp:Nm->Nat)(cnt:Nat)(v:Value)(l:List iG)(left:Nat):Prop where
 rng:jf Tryz.prog wr 58 mb ri (eE λn=>(rows n).map λ_=>.pointer (some ⟨rp n,0,none⟩)) cnt (l.map λx=>aW x.n).reverse left
 own:wr.ownsRow base 60 10 v l.length (l.flatMap iL)
 new:∀b,v.ownBlock=some b->W1.heap.size<=b
 only:aa (λb=>b=ri) W1 wr
 nodup:(l.map (·.n)).Nodup
 rw:∀x∈l,rows x.n=some x.r
 cnt:l.length+left<=cnt
section
variable {w w':World}{F:Nat->Prop}{tb mb:Nat}{most:Int}{rows:Nm->Option aG}{cnt:Nat}{rp:Nm->Nat}
attribute [local simp] eM gw gz dj eD Region.binds ed ey Is ap Act.put
theorem Dy(h:bS w F tb mb most rows cnt rp)(hF:∀b,F b->b<w.heap.size){n0:Nm}(hne:rows n0≠none)(hc:cnt<=100000):
 Calls Tryz.prog 49 #[.pointer (some ⟨tb,0,none⟩)] w λe w'=>te w w' rows e:=by
 have c1:=h.J.I 1;simp at c1;have hmap:=h.map;have HH:=hD h;have HF:=hD hF;have HNE:=hD hne;have HC:=hD hc;have HMB:Hd (mb<w.heap.size):=hD (hF _ h.fm);clear h hF hne hc;go_enter Tryz.func49,Tryz.ntmps49
 go_wp2_with (first|(at_range;refine mV rfl _ 196 rfl 58 199 ix Tryz.underlying196 rfl hmap ?_;intro W1 hrg o1 s1;have HRG:=hD hrg;have HO1:=hD o1;have HS1:=hD s1;clear hrg o1 s1)|fail)
 go_frame
 go_loopw [2] (λv wr=>∃(l:List iG) (left:Nat),Ej W1 wr mb w.heap.size w.heap.size rows rp cnt v l left) (λ_ wr=>wr.rangeLeft mb w.heap.size)
 case atStart=>
  have hs:=HS1.O;exact⟨[],cnt,HRG.O,⟨by simp,.inl ⟨rfl,rfl⟩⟩,λb hb=>(by cases hb),oR,List.nodup_nil,λx hx=>(by cases hx),by simp⟩
 case round=>
  obtain⟨l,left,hm⟩:=hrel;have HM:=hD hm;have hrg:=hm.rng;obtain⟨Av,cv,hv⟩:=jx hm.own;obtain⟨ln,hln⟩:=eX l.length;rw[<-hln] at hv;subst hv;have HLN:=hD hln;clear hm hln
  go_wp2_with (first|(at_next;refine n4 (α:=Nm) rfl _ rfl ix aW (λn=>.pointer (some ⟨rp n,0,none⟩)) (λkey v hg=>by obtain⟨n,e1,e2⟩:=CM hg;refine⟨n,e1,?_⟩;cases hr:rows n with|none=>(rw[hr] at e2;cases e2)|some r=>(rw[hr] at e2;cases e2;rfl)) rfl hrg (λh0 hall=>?_) (λx W2 left2 hg hns hrg2 hlt2 o2 hen=>?_))|fail)
  ·have HALL:=hD hall
   clear h0 hall hrg
   have hm0:aW n0∈(l.map λx=>aW x.n).reverse:=by
    cases hr:rows n0 with
    |none=>exact absurd hr HNE.O
    |some r=>
     obtain⟨kl,hk⟩:=(HH.O.row n0 r hr).2.1.key;exact HALL.O _ kl hk (by rw[iP,hr];simp)
   have hl0:l≠[]:=λe=>by rw[e] at hm0;simp at hm0
   obtain⟨g,hg,hgn⟩ :∃g,Av=some ⟨g,0,none⟩/\W1.heap.size<=g:=by
    have hown:=HM.O.own
    rcases hown.2 with⟨e1,e2⟩|⟨g,cap,cur,e1,_⟩
    ·exact absurd (yr e2) hl0
    ·have hA:Av=some ⟨g,0,none⟩:=by injection e1
     exact⟨g,hA,HM.O.new g (by rw[hA];rfl)⟩
   subst hg;have hown:=HM.O.own;rw[HLN.O] at hown
   have HSort:Hd (Calls Tryz.prog 99 #[.slice (some ⟨g,0,none⟩) ln cv,.func (.func 100) #[] #[]] wr λe w'=>e=.returned (.tuple #[])/\∃l':List iG,l'.Perm l/\(∀i j,i<j->j<l'.length->ltOf tG l'[j]! l'[i]! =false)/\
    w'.ownsRow w.heap.size 60 10 (.slice (some ⟨g,0,none⟩) ln cv) l.length (l'.flatMap iL)/\aa (λb=>b=g) wr w'):=hD (by
    rw[HLN.O];exact uK (k:=10) Tryz.sortRow Tryz.isAgg60 Tryz.sizeOf60 nL uG tG Gz 100 (enters_of Tryz.func100 (by kernel_rfl) rfl) Du hown (by have:=HM.O.cnt;have:=HC.O;omega))
   clear hm0 hl0 hown;refine HSort.O.mono ?_;rintro e W3 ⟨rfl,l',p1,p2,p3,p4⟩;have HP:=hD (aI p1 (aI p3 p4));clear p1 p2 p3 p4;go_wp2_with fail;go_ret;obtain⟨p1,p3,p4⟩:=HP.O;have hS1:ac w wr:=HO1.O.trans' HM.O.only (λb e=>.inr (by rw[e];exact lR));refine⟨_,l',rfl,by rw[p1.length_eq];exact p3,hS1.trans' p4 (λb e=>.inr (by rw[e];exact lT HO1.O.size hgn)),(p1.map _).nodup_iff.2 HM.O.nodup,λx hx=>HM.O.rw x (p1.mem_iff.1 hx),λn hn=>?_⟩;refine(p1.map _).mem_iff.2 ?_
   cases hr:rows n with
   |none=>exact absurd hr hn
   |some r=>
    obtain⟨kl,hk⟩:=(HH.O.row n r hr).2.1.key;have:=HALL.O _ kl hk (by rw[iP,hr];simp);rw[List.mem_reverse] at this;obtain⟨y,hy,e⟩:=yL.1 this;exact yL.2 ⟨y,hy,ul e⟩
  ·have HG:=hD hg
   have HNS:=hD hns;have HRG2:=hD hrg2;have HLT2:=hD hlt2;have HO2:=hD o2;clear hg hns hrg2 hlt2 o2 hrg;unfold aW fe at hen ⊢
   obtain⟨r,hr⟩ :∃r,rows x=some r:=by
    have:=HG.O;rw[iP] at this
    cases hr:rows x with
    |none=>rw[hr] at this;cases this
    |some r=>exact⟨r,rfl⟩
   have hS1:ac w wr:=HO1.O.trans' HM.O.only (λb e=>.inr (by rw[e];exact lR));have hS2:ac w W2:=hS1.trans' HO2.O (λb e=>.inr (by rw[e];exact lR));have HS2:=hD hS2;obtain⟨_,_,hal,A,c,hb,hI⟩:=(HH.O.kp hS2 nG).row x r hr;have HTold:=hD (uX (rp x) x r A c F W2 hb hI hal);have HR:=hD hr
   have HOwn:Hd (∀W,ac W2 W->W.ownsRow w.heap.size 60 10 (.slice Av ln cv) l.length (l.flatMap iL)):=hD λW hW=>by
    refine hW.owns (HO2.O.owns HM.O.own (λb hb e=>?_)) nG;have h1:=HM.O.new b hb;have h2:=HS1.O;omega
   have HLL:Hd (l.length<=1000000):=hD (by have:=HM.O.cnt;have:=HC.O;omega);clear hr hS1 hS2 hb hI hal
   go_wp2_with (first
    |(go_at_call 98;refine HTold.O.mono ?_;rintro e W3 ⟨A',c',rfl,i3,o3⟩;have HO3:=hD o3;clear i3 o3;unfold jo)
    |(at_builtin;refine jP (enc:=iL) rfl (.tmp 16) (.tmp 19) 55 60 10 112 w.heap.size rfl Tryz.underlying55 EF (by decide) (by decide) (.slice Av ln cv) rfl rfl l ⟨x,r,A',c'⟩ (HOwn.O _ (aa.alloc HO3.O _)) (ae.new W3 _ _) (uG _) (nL _) HLL.O (lT HS2.O.size (lT HO3.O.size (aa.alloc (aa.refl (λ_=>False) W3) _).size)) ?_;intro v' W4 k1 k2 k3;have HK:=hD (aI k1 (aI k2 k3));clear k1 k2 k3)
    |fail)
   have HSt3:Hd (ac W2 (W3.alloc (.cells #[.int .u64 x.job,.string (sB x.M),.string (sB r.tk.M),.int .i64 r.tk.fn,.slice A' r.tk.args.length c',.int .i64 (r.tk.fuel:Int),.int .u8 (r.sa:Int),.int .i64 r.opn,.int .i64 r.res.v,.int .i64 r.res.e] 60))):=hD (aa.alloc HO3.O _)
   have hnewb:∀b,(Value.slice Av ln cv).ownBlock=some b->w.heap.size<b:=λb hb=>by
    have h1:=HM.O.new b hb;have h2:=HS1.O;omega
   have HNB:=hD hnewb;clear hnewb;have hrg4:jf Tryz.prog W4 58 mb w.heap.size (eE λn=>(rows n).map λ_=>.pointer (some ⟨rp n,0,none⟩)) cnt (aW x :: (l.map λx=>aW x.n).reverse) left2:=(HRG2.O.only HSt3.O nF nF).only HK.O.2.1 (λe=>by have h1:=HNB.O _ e;have h2:=HMB.O;omega) (λe=>by have h1:=HNB.O _ e;omega);have HR4:=hD hrg4;clear hrg4;go_roundw
   case measure=>
    rw[HR4.O.left_eq,HM.O.rng.left_eq];exact HLT2.O
   case rel=>
    refine⟨l++ [⟨x,r,A',c'⟩],left2,?_,HK.O.1,λb hb=>?_,?_,?_,λy hy=>?_,?_⟩
    ·rw[yS,List.reverse_append]
     exact HR4.O
    ·rcases HK.O.2.2 b hb with e|e
     ·exact HM.O.new b e
     ·have h1:=HSt3.O.size
      have h2:=HO2.O.size;have h3:=HM.O.only.size;omega
    ·refine((HM.O.only.trans HO2.O).trans (HSt3.O.mono λ_ e=>e.elim)).trans' HK.O.2.1 (λb e=>.inr (HM.O.new b e))
    ·rw[yS]
     refine zy.2 ⟨HM.O.nodup,by simp,λa ha b hb e=>?_⟩;have hb':b=x:=by simpa using hb
     rw[e,hb'] at ha;obtain⟨z,hz,hze⟩:=yL.1 ha;exact HNS.O (List.mem_reverse.2 (yL.2 ⟨z,hz,by rw[hze]⟩))
    ·rcases yH.1 hy with e|e
     ·exact HM.O.rw y e
     ·rw[yw.1 e]
      exact HR.O
    ·have h1:=HM.O.cnt
     have h2:=HLT2.O;rw[yk,List.length_singleton];omega
end
end
end Go.Proofs.YtmdocplknceilaaGreat
