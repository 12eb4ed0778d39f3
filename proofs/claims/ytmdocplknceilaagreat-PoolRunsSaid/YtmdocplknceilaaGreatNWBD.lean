import Derived.Test.YtmdocplknceilaaGreatNWAQ
import Derived.Test.YtmdocplknceilaaGreatNWBC
set_option linter.all false
namespace Go.Proofs.YtmdocplknceilaaGreat
section
open Go.RowKit Go.Maps
def ptr(b:Nat):Value:=.pointer (some ⟨b,0,none⟩)
def gI(kd:IntKind)(f:Int->Option Value):Value->Option Value
 | .int k x=>if k=kd then f x else none
 |_=>none
theorem mX(kd:IntKind)(f:Int->Option Value)(x:Int):gI kd f (.int kd x)=f x:=by simp[gI]
theorem xZ(kd:IntKind)(f:Int->Option Value)(x:Int)(v:Option Value):iu (gI kd f) (.int kd x) v=gI kd (λy=>if y=x then v else f y):=by
 funext key
 by_cases a:key=.int kd x
 ·subst a
  rw[jV,mX,yf rfl]
 ·rw[kq _ _ a]
  unfold gI;split
  ·rename_i k y
   split
   ·rename_i c
    subst c;show f y=if y=x then v else f y
    rw[yb (λb=>a (by rw[b]))]
   ·rfl
  ·rfl
theorem tI:Keyed Tryz.prog 2:=int_keyed Tryz.underlying2
theorem oi:Keyed Tryz.prog 54:=int_keyed Tryz.underlying54
def rq(w:World)(F:Nat->Prop)(v:Value)(q:List Nm):Prop:=
 (v=.slice none 0 0/\q= [])\/∃g o c cur,v=.slice (some ⟨g,o,none⟩) q.length c/\F g/\ae w g 58 cur/\q.length<=c/\o+c*2<=cur.size/\c<=maxLen/\
  ∀(i:Nat) (n:Nm),q[i]?=some n->cur[o+i*2]?=some (.int .u64 n.job)/\cur[o+i*2+1]?=some (.string (sB n.M))
def jH(x:Nm×Nat×aD):List Value:=[.int .u64 x.1.job,.string (sB x.1.M),.int .i64 (x.2.1:Int),.int .i64 x.2.2.v,.int .i64 x.2.2.e]
structure cP where
 pb:Nat
 thr:Int
 log:Int
 most:Int
 hv:Value
 tps:List Nat
 tb:Nat
 mb:Nat
 rp:Nm->Nat
 gb:Nat
 pA:Int->Option Addr×Nat
 pn:Nat
 qv:Value
 nb:Nat
 mm:Nat
 fb:Nat
 fp:Nm->Nat
 fl:Nm->ix
 fn:Nat
 kb:Nat
 kn:Nat
 ab:Nat
 an:Nat
 ob:Nat
 on:Nat
 dv:Value
 dn:List (Nm×Nat×aD)
 m:Nat
 n:Int
 v:Value
 dp:List Nat
 ps:List (List Nat)
def bB(L:cP):Array Value:=
 #[.int .i64 L.thr,.int .i64 L.log,.int .i64 L.most,L.hv,ptr L.tb,.map (some L.gb),L.qv,.map (some L.nb),.map (some L.mm),.map (some L.fb),.map (some L.kb),.map (some L.ab),.map (some L.ob),L.dv]
def dQ(av:Value)(kind:Nat)(d:Nat)(cur:Nm)(fv:Value):Array Value:=#[av,.int .i64 (kind:Int),ptr d,.int .u64 cur.job,.string (sB cur.M),fv]
def xC(w:World)(tag:Nat->Nat)(L:cP)(k:Nat)(th:Th):Prop:=
 ∃tp d av fv,L.tps[k]?=some tp/\tag tp=15/\L.dp[k]?=some d/\ae w tp 131 (dQ av th.kn d th.cur fv)/\(th.act=none->av=.pointer none)/\
  (∀j i,th.act=some (j,i)->∃pl p,L.ps[j]?=some pl/\pl[i]?=some p/\av=ptr p)/\(th.run=true->fv=ptr (L.fp th.cur))/\(th.run=false->fv=.pointer none)
noncomputable def iW(nms:List Nm)(n:Nm):Option Value:=open Classical in if h:∃v:Nat,nms[v]?=some n then some (.int .i64 ((Classical.choose h:Nat):Int)) else none
def iq(nms:List Nm)(v:Int):Option Value:=if v<0 then none else(nms[v.toNat]?).map aV
structure aY(X:List Nat)(w:World)(tag:Nat->Nat)(L:cP)(s:PS):Prop where
 tlt:∀b,tag b≠0->b<w.heap.size
 p1:1 ∉ X->tag L.pb=1/\ae w L.pb 123 (bB L)
 p2:2 ∉ X->bQ w (λb=>tag b=2) L.tb L.mb L.most s.T.rw s.T.ks.length L.rp
 p3:3 ∉ X->DW w (λb=>tag b=3) L.m L.n L.v s.C s.ds L.dp L.ps
 p4:4 ∉ X->∀j p,s.progs j=some p->dg w (λb=>tag b=4) (L.pA j).1 p
 p5:5 ∉ X->(∀b,L.hv.ownBlock=some b->tag b=5)/\w.ownsRow 0 124 1 L.hv L.tps.length (L.tps.map ptr)
 p6:6 ∉ X->rq w (λb=>tag b=6) L.qv s.queue/\∀n∈s.queue,dh n
 p7:7 ∉ X->(∀b,L.dv.ownBlock=some b->tag b=7)/\w.ownsRow 0 69 5 L.dv L.dn.length (L.dn.flatMap jH)
 p8:8 ∉ X->tag L.gb=8/\aN Tryz.prog w 54 L.gb (gI .u64 λj=>(s.progs j).map λp=>aP p (L.pA j).1 (L.pA j).2) L.pn
 p9:9 ∉ X->tag L.nb=9/\aN Tryz.prog w 58 L.nb (dY (iW s.nms)) s.nms.length
 p10:10 ∉ X->tag L.mm=10/\aN Tryz.prog w 2 L.mm (gI .i64 (iq s.nms)) s.nms.length/\∀n∈s.nms,dh n
 p11:11 ∉ X->tag L.fb=11/\aN Tryz.prog w 58 L.fb (dY λn=>(s.T.fm n).map λ_=>ptr (L.fp n)) L.fn
 p12:12 ∉ X->tag L.kb=12/\aN Tryz.prog w 58 L.kb (dY λn=>(s.known n).map eO) L.kn
 p13:13 ∉ X->tag L.ab=13/\aN Tryz.prog w 58 L.ab (dY λn=>if s.away n=true then some (.int .i64 1) else none) L.an
 p14:14 ∉ X->tag L.ob=14/\aN Tryz.prog w 58 L.ob (dY λn=>(s.roots n).map (Value.int .i64)) L.on
 p15:15 ∉ X->L.tps.length=s.ths.length/\(∀(k:Nat) (th:Th),s.ths[k]?=some th->xC w tag L k th)/\∀(i j tp:Nat),L.tps[i]?=some tp->L.tps[j]?=some tp->i=j
 p16:∀n f,s.T.fm n=some f->100+L.fp n ∉ X->aZ w (λb=>tag b=100+L.fp n) (L.fp n) (L.fl n) (s.prog n.job) f/\(f.result=none->gK (s.prog n.job) f)
 p17:∀n m,s.T.fm n≠none->s.T.fm m≠none->L.fp n=L.fp m->n=m
abbrev aX:=aY []
section
variable {w w':World}{tag tag':Nat->Nat}{L L':cP}{s s':PS}{X:List Nat}{S:Nat->Prop}{i:Nat}
theorem rq.kp{F d:Nat->Prop}{v:Value}{q:List Nm}(a:rq w F v q)(p:aa S w w')(m:∀b,F b->¬S b)(l:∀b,F b->d b):rq w' d v q:=by
 rcases a with a|⟨g,o,c,cur,f,e,j,k⟩
 ·exact .inl a
 ·exact .inr ⟨g,o,c,cur,f,l _ e,p.J j (m _ e),k⟩
theorem aY.keepL{Y:List Nat}(e:aY X w tag L s)(q:aa S w w')(F:∀b,S b->tag b∈Y)(Q:∀b,tag b≠0->tag' b=tag b)(K:∀b,tag' b≠0->b<w'.heap.size):aY (Y++X) w' tag' L s:=by
 have o:∀j,j ∉ Y++X->∀b,tag b=j->¬S b:=λj a b t P=>a (by rw[<-t];exact List.mem_append_left _ (F b P))
 have l:∀j,j ∉ Y++X->j ∉ X:=λj a B=>a (List.mem_append_right _ B)
 have m:∀j,j≠0->∀b,tag b=j->tag' b=j:=λj A b t=>by rw[Q b (by rw[t];exact A)];exact t
 have y:∀{j:Nat} {k:TypeId} {b:Nat} {g:Value->Option Value} {c:Nat},j≠0->j ∉ Y++X->(j ∉ X->tag b=j/\aN Tryz.prog w k b g c)->tag' b=j/\aN Tryz.prog w' k b g c:=λA a x=>⟨m _ A _ (x (l _ a)).1,(x (l _ a)).2.only q (o _ a _ (x (l _ a)).1)⟩
 have D:∀{j:Nat} {B:TypeId} {z n:Nat} {v:Value} {xs:List Value},j≠0->j ∉ Y++X->(j ∉ X->(∀b,v.ownBlock=some b->tag b=j)/\w.ownsRow 0 B z v n xs)->(∀b,v.ownBlock=some b->tag' b=j)/\w'.ownsRow 0 B z v n xs:=λA a x=>
  ⟨λb t=>m _ A _ ((x (l _ a)).1 b t),q.owns (x (l _ a)).2 (λb t=>o _ a _ ((x (l _ a)).1 b t))⟩
 refine⟨K,λa=>?_,λa=>?_,λa=>?_,λa j p N=>?_,λa=>D (by decide) a e.p5,λa=>?_,λa=>D (by decide) a e.p7,λa=>y (by decide) a e.p8,λa=>y (by decide) a e.p9,λa=>by
  obtain⟨r,u,C⟩:=e.p10 (l _ a);exact⟨m _ (by decide) _ r,u.only q (o _ a _ r),C⟩,
  λa=>y (by decide) a e.p11,λa=>y (by decide) a e.p12,λa=>y (by decide) a e.p13,λa=>y (by decide) a e.p14,λa=>?_,λn f G a=>?_,e.p17⟩
 ·obtain⟨r,u⟩:=e.p1 (l _ a)
  exact⟨m _ (by decide) _ r,q.J u (o _ a _ r)⟩
 ·exact((e.p2 (l _ a)).kp q (o _ a)).mo (m _ (by decide))
 ·exact((e.p3 (l _ a)).kp q (o _ a)).mo (m _ (by decide))
 ·exact((e.p4 (l _ a) j p N).kp q (o _ a)).mo (m _ (by decide))
 ·exact⟨(e.p6 (l _ a)).1.kp q (o _ a) (m _ (by decide)),(e.p6 (l _ a)).2⟩
 ·obtain⟨r,u,C⟩:=e.p15 (l _ a)
  refine⟨r,λk th H=>?_,C⟩;obtain⟨tp,d,av,fv,R,E,T,V,W⟩:=u k th H;exact⟨tp,d,av,fv,R,m _ (by decide) _ E,T,q.J V (o _ a _ E),W⟩
 ·obtain⟨r,u⟩:=e.p16 n f G (l _ a)
  exact⟨(r.kp q (o _ a)).mo (m _ (by omega)),u⟩
theorem aY.kp(a:aY X w tag L s)(f:aa S w w')(c:∀b,S b->tag b=i)(g:∀b,tag b≠0->tag' b=tag b)(e:∀b,tag' b≠0->b<w'.heap.size):aY (i :: X) w' tag' L s:=
 a.keepL (Y:=[i]) f (λb d=>by rw[c b d];exact yw.2 rfl) g e
theorem aY.mono{Y:List Nat}(c:aY X w tag L s)(d:∀j,j≠0->j∈X->j∈Y):aY Y w tag L s:=
 ⟨c.tlt,
  λb=>c.p1 λa=>b (d 1 (by decide) a),
  λb=>c.p2 λa=>b (d 2 (by decide) a),
  λb=>c.p3 λa=>b (d 3 (by decide) a),
  λb=>c.p4 λa=>b (d 4 (by decide) a),
  λb=>c.p5 λa=>b (d 5 (by decide) a),
  λb=>c.p6 λa=>b (d 6 (by decide) a),
  λb=>c.p7 λa=>b (d 7 (by decide) a),
  λb=>c.p8 λa=>b (d 8 (by decide) a),
  λb=>c.p9 λa=>b (d 9 (by decide) a),
  λb=>c.p10 λa=>b (d 10 (by decide) a),
  λb=>c.p11 λa=>b (d 11 (by decide) a),
  λb=>c.p12 λa=>b (d 12 (by decide) a),
  λb=>c.p13 λa=>b (d 13 (by decide) a),
  λb=>c.p14 λa=>b (d 14 (by decide) a),
  λb=>c.p15 λa=>b (d 15 (by decide) a),
  λn f e b=>c.p16 n f e λa=>b (d _ (by omega) a),
  c.p17⟩
def cS(tag:Nat->Nat)(w w':World)(i:Nat)(b:Nat):Nat:=if w.heap.size<=b/\b<w'.heap.size then i else tag b
theorem bJ(a:∀b,tag b≠0->b<w.heap.size)(b:Nat)(c:tag b≠0):cS tag w w' i b=tag b:=by
 unfold cS;rw[yb (λd=>by have:=a b c;omega)]
theorem fR{b:Nat}(a:w.heap.size<=b/\b<w'.heap.size):cS tag w w' i b=i:=by
 unfold cS;rw[yf a]
theorem rP(d:∀b,tag b≠0->b<w.heap.size)(e:w.heap.size<=w'.heap.size)(b:Nat)(a:cS tag w w' i b≠0):b<w'.heap.size:=by
 unfold cS at a;split at a
 ·rename_i c;exact c.2
 ·exact lL (d b a) e
theorem kG(c:∀b,tag b≠0->b<w.heap.size)(e:i≠0)(b:Nat)(d:tag b=i\/w.heap.size<=b/\b<w'.heap.size):cS tag w w' i b=i:=by
 rcases d with a|a
 ·rw[bJ c b (by rw[a];exact e)];exact a
 ·exact fR a
theorem kH(b:Nat)(a:cS tag w w' i b≠0):tag b≠0\/w.heap.size<=b:=by
 unfold cS at a;split at a
 ·rename_i c;exact .inr c.1
 ·exact .inl a
theorem aY.part(a:aY X w tag L s)(c:aa (λb=>tag b=i) w w'):aY (i :: X) w' (cS tag w w' i) L s:=
 a.kp c (λb d=>d) (bJ a.tlt) (rP a.tlt c.size)
structure aQ(w w':World)(tag tag':Nat->Nat):Prop where
 only:aa (λb=>tag b≠0) w w'
 old:∀b,tag b≠0->tag' b=tag b
 new:∀b,tag' b≠0->tag b≠0\/w.heap.size<=b
theorem aQ.trans{f:World}{e:Nat->Nat}(a:aQ w w' tag tag')(k:aQ w' f tag' e):aQ w f tag e:=
 ⟨a.only.trans' k.only a.new,λb c=>(k.old b (by rw[a.old b c];exact c)).trans (a.old b c),λb c=>by
  rcases k.new b c with d|d
  ·exact a.new b d
  ·exact .inr (lT a.only.size d)⟩
theorem aQ.part(c:∀b,tag b≠0->b<w.heap.size)(d:i≠0)(e:aa (λb=>tag b=i) w w'):aQ w w' tag (cS tag w w' i):=
 ⟨e.mono λb a=>by rw[a];exact d,bJ c,kH⟩
theorem aQ.U(d:ac w w'):aQ w w' tag tag:=⟨d.mono λ_ a=>a.elim,λ_ _=>rfl,λb c=>.inl c⟩
theorem aY.U(c:aY X w tag L s)(d:ac w w'):aY X w' tag L s:=
 (c.kp (i:=0) d (λ_ a=>a.elim) (λ_ _=>rfl) (λb f=>lL (c.tlt b f) d.size)).mono λj e g=>by
  rcases yG.1 g with a|a
  ·exact absurd a e
  ·exact a
end
theorem jK{j q:Nat}(a:j<100):j ∉ [100+q]:=by simp;omega
theorem FL{q r:Nat}(a:q≠r):100+q ∉ [100+r]:=by simp;omega
theorem rF{q j:Nat}(a:j<100):100+q ∉ [j]:=by simp;omega
section
variable {w w':World}{tag tag':Nat->Nat}{L L':cP}{s s':PS}{X:List Nat}{S:Nat->Prop}{i:Nat}{n:Nm}
theorem aY.fill2{T':TS}{rp':Nm->Nat}(a:aY [2] w tag L s)(g:bQ w (λb=>tag b=2) L.tb L.mb L.most T'.rw T'.ks.length rp')(c:T'.fm=s.T.fm):aX w tag {L with rp:=rp'} {s with T:=T'}:=
 ⟨a.tlt,λ_=>a.p1 (by decide),λ_=>g,λ_=>a.p3 (by decide),λ_ j p l=>a.p4 (by decide) j p l,λ_=>a.p5 (by decide),λ_=>a.p6 (by decide),λ_=>a.p7 (by decide),λ_=>a.p8 (by decide),λ_=>a.p9 (by decide),λ_=>a.p10 (by decide),λ_=>by show _/\aN _ _ _ _ (dY λn=>(T'.fm n).map _) _;rw[c];exact a.p11 (by decide),λ_=>a.p12 (by decide),λ_=>a.p13 (by decide),λ_=>a.p14 (by decide),λ_=>a.p15 (by decide),λn f k _=>a.p16 n f (by rw[<-c];exact k) (rF (by decide)),λn m d e=>a.p17 n m (by rw[<-c];exact d) (by rw[<-c];exact e)⟩
def iZ(ps ps':List (List Nat)):Prop:=∀(j i:Nat) (pl:List Nat) (p:Nat),ps[j]?=some pl->pl[i]?=some p->∃pl',ps'[j]?=some pl'/\pl'[i]?=some p
theorem iZ.refl(ps:List (List Nat)):iZ ps ps:=λj i pl p a b=>⟨pl,a,b⟩
theorem iZ.snoc{ps:List (List Nat)}{j:Nat}{pl:List Nat}(d:ps[j]?=some pl)(q:Nat):iZ ps (ps.set j (pl++ [q])):=by
 intro k i e p a b
 by_cases c:k=j
 ·subst c
  rw[d] at a
  cases a
  exact⟨pl++ [q],bD (gS d).1,by rw[yi (gS b).1];exact b⟩
 ·exact⟨e,by rw[dF c];exact a,b⟩
theorem xC.ps{k:Nat}{th:Th}{ps':List (List Nat)}{n':Int}{A:Value}(b:xC w tag L k th)(c:iZ L.ps ps'):xC w tag {L with n:=n',v:=A,ps:=ps'} k th:=by
 obtain⟨tp,d,av,fv,o,q,r,t,u,x,y⟩:=b;refine⟨tp,d,av,fv,o,q,r,t,u,λj i a=>?_,y⟩;obtain⟨pl,p,e,f,g⟩:=x j i a;obtain⟨z,l,m⟩:=c j i pl p e f;exact⟨z,p,l,m,g⟩
theorem aY.fill3{C':List Int}{d:List aT}{n':Int}{e:Value}{ps':List (List Nat)}(a:aY [3] w tag L s)(g:DW w (λb=>tag b=3) L.m n' e C' d L.dp ps')(c:iZ L.ps ps'):aX w tag {L with n:=n',v:=e,ps:=ps'} {s with C:=C',ds:=d}:=
 ⟨a.tlt,λ_=>a.p1 (by decide),λ_=>a.p2 (by decide),λ_=>g,λ_ j p c=>a.p4 (by decide) j p c,λ_=>a.p5 (by decide),λ_=>a.p6 (by decide),λ_=>a.p7 (by decide),λ_=>a.p8 (by decide),λ_=>a.p9 (by decide),λ_=>a.p10 (by decide),λ_=>a.p11 (by decide),λ_=>a.p12 (by decide),λ_=>a.p13 (by decide),λ_=>a.p14 (by decide),λ_=>⟨(a.p15 (by decide)).1,λk th o=>((a.p15 (by decide)).2.1 k th o).ps c,(a.p15 (by decide)).2.2⟩,λn f l _=>a.p16 n f l (rF (by decide)),a.p17⟩
theorem aY.thread{k tp d:Nat}{th:Th}{av fv:Value}(th':Th)(a:aX w tag L s)(P:s.ths[k]?=some th)(t:L.tps[k]?=some tp)(K:L.dp[k]?=some d)(r:aa (λb=>b=tp) w w')(o:ae w' tp 131 (dQ av th'.kn d th'.cur fv))
 (G:th'.act=none->av=.pointer none) (H:∀j i,th'.act=some (j,i)->∃pl p,L.ps[j]?=some pl/\pl[i]?=some p/\av=ptr p) (q:th'.run=true->fv=ptr (L.fp th'.cur)) (N:th'.run=false->fv=.pointer none):
 aX w' tag L {s with ths:=s.ths.set k th'}:=by
 obtain⟨F,x,y⟩:=a.p15 (by decide)
 have A:tag tp=15:=by
  obtain⟨v,_,_,_,c,u,_⟩:=x k th P;rw[t] at c
  cases c
  exact u
 have z:=a.kp (i:=15) (tag':=tag) r (λb e=>by rw[e];exact A) (λ_ _=>rfl) (λb o=>lL (a.tlt b o) r.size);obtain⟨a,rfl⟩ :∃E:aY [15] w' tag L s,E=z:=⟨z,rfl⟩
 exact⟨a.tlt,λ_=>a.p1 (by decide),λ_=>a.p2 (by decide),λ_=>a.p3 (by decide),λ_ j p R=>a.p4 (by decide) j p R,λ_=>a.p5 (by decide),λ_=>a.p6 (by decide),λ_=>a.p7 (by decide),λ_=>a.p8 (by decide),λ_=>a.p9 (by decide),λ_=>a.p10 (by decide),λ_=>a.p11 (by decide),λ_=>a.p12 (by decide),λ_=>a.p13 (by decide),λ_=>a.p14 (by decide),λ_=>⟨by show L.tps.length=(s.ths.set k th').length;rw[yI];exact F,λl Y Q=>by
  rcases dG Q with⟨g,m⟩|⟨g,m⟩
  ·subst g
   subst m;exact⟨tp,d,av,fv,t,A,K,o,G,H,q,N⟩
  ·obtain⟨v,C,B,D,c,u,T,V,W⟩:=x l Y m
   exact⟨v,C,B,D,c,u,T,r.J V (λe=>g (y l k v c (by rw[e];exact t))),W⟩,y⟩,λn f q _=>a.p16 n f q (rF (by decide)),a.p17⟩
theorem aY.frame{q:Nat}{l':ix}{f':Fr}(t:q=L.fp n)(c:aY [100+q] w tag L s)(m:s.T.fm n≠none)(x:aZ w (λb=>tag b=100+q) q l' (s.prog n.job) f')(v:f'.result=none->gK (s.prog n.job) f'):
 aX w tag {L with fl:=ay L.fl n l'} {s with T:={s.T with fm:=ay s.T.fm n (some f')}}:=by
 have e:(λa=>(ay s.T.fm n (some f') a).map λ_=>ptr (L.fp a))=λa=>(s.T.fm a).map λ_=>ptr (L.fp a):=by
  funext a
  by_cases d:a=n
  ·subst d
   rw[aA]
   cases l:s.T.fm a with
   |none=>exact absurd l m
   |some f=>rfl
  ·rw[ag _ _ d]
 have r:∀a,ay s.T.fm n (some f') a≠none->s.T.fm a≠none:=λa e=>by
  by_cases d:a=n
  ·subst d;exact m
  ·rw[ag _ _ d] at e;exact e
 exact⟨c.tlt,λ_=>c.p1 (jK (by decide)),λ_=>c.p2 (jK (by decide)),λ_=>c.p3 (jK (by decide)),λ_ j p y=>c.p4 (jK (by decide)) j p y,λ_=>c.p5 (jK (by decide)),λ_=>c.p6 (jK (by decide)),λ_=>c.p7 (jK (by decide)),λ_=>c.p8 (jK (by decide)),λ_=>c.p9 (jK (by decide)),λ_=>c.p10 (jK (by decide)),λ_=>by show _/\aN _ _ _ _ (dY λa=>(ay s.T.fm n (some f') a).map λ_=>ptr (L.fp a)) _;rw[e];exact c.p11 (jK (by decide)),λ_=>c.p12 (jK (by decide)),λ_=>c.p13 (jK (by decide)),λ_=>c.p14 (jK (by decide)),λ_=>c.p15 (jK (by decide)),λa f e _=>by
  by_cases d:a=n
  ·subst d
   have g:f=f':=by rw[show({s with T:={s.T with fm:=ay s.T.fm a (some f')}}:PS).T.fm a=ay s.T.fm a (some f') a from rfl,aA] at e;exact(yz e).symm
   subst g;refine⟨?_,v⟩;show aZ w (λb=>tag b=100+L.fp a) (L.fp a) (ay L.fl a l' a) _ _;rw[aA,<-t];exact x
  ·have o:s.T.fm a=some f:=by rw[show({s with T:={s.T with fm:=ay s.T.fm n (some f')}}:PS).T.fm a=ay s.T.fm n (some f') a from rfl,ag _ _ d] at e;exact e
   have:=c.p16 a f o (FL (λg=>d (c.p17 a n (by rw[o];simp) m (by rw[g,t]))));refine⟨?_,this.2⟩;show aZ w _ (L.fp a) (ay L.fl n l' a) _ _;rw[ag _ _ d];exact this.1,λa k l u=>c.p17 a k (r a l) (r k u)⟩
theorem aY.frameNew{q cn:Nat}{l':ix}{f':Fr}(e:aY [11] w tag L s)(W:s.T.fm n=none)(F:∀(k:Nat) (th:Th),s.ths[k]?=some th->th.run=true->th.cur≠n)(B:aZ w (λb=>tag b=100+q) q l' (s.prog n.job) f')(A:f'.result=none->gK (s.prog n.job) f')
 (y:∀c,s.T.fm c≠none->L.fp c≠q) (D:tag L.fb=11/\aN Tryz.prog w 58 L.fb (iu (dY λc=>(s.T.fm c).map λ_=>ptr (L.fp c)) (aV n) (some (ptr q))) cn):
 aX w tag {L with fp:=ay L.fp n q,fl:=ay L.fl n l',fn:=cn} {s with T:={s.T with fm:=ay s.T.fm n (some f')}}:=by
 have C:(λc=>(ay s.T.fm n (some f') c).map λ_=>ptr (ay L.fp n q c))=ay (λc=>(s.T.fm c).map λ_=>ptr (L.fp c)) n (some (ptr q)):=by
  funext c
  by_cases g:c=n
  ·subst g
   rw[aA,aA,aA];rfl
  ·rw[ag _ _ g,ag _ _ g,ag _ _ g]
 have v:∀c,({s with T:={s.T with fm:=ay s.T.fm n (some f')}}:PS).T.fm c=ay s.T.fm n (some f') c:=λ_=>rfl
 exact⟨e.tlt,λ_=>e.p1 (by decide),λ_=>e.p2 (by decide),λ_=>e.p3 (by decide),λ_ j p E=>e.p4 (by decide) j p E,λ_=>e.p5 (by decide),λ_=>e.p6 (by decide),λ_=>e.p7 (by decide),λ_=>e.p8 (by decide),λ_=>e.p9 (by decide),λ_=>e.p10 (by decide),λ_=>by show _/\aN _ _ _ _ (dY λc=>(ay s.T.fm n (some f') c).map λ_=>ptr (ay L.fp n q c)) _;rw[C,<-lu];exact D,λ_=>e.p12 (by decide),λ_=>e.p13 (by decide),λ_=>e.p14 (by decide),λ_=>by
  obtain⟨m,o,z⟩:=e.p15 (by decide);refine⟨m,λk th x=>?_,z⟩;obtain⟨tp,d,av,fv,G,H,K,N,P,Q,R,V⟩:=o k th x;refine⟨tp,d,av,fv,G,H,K,N,P,Q,λg=>?_,V⟩;show fv=ptr (ay L.fp n q th.cur);rw[ag _ _ (F k th x g)];exact R g,λc f u _=>by
  rw[v] at u;show aZ w (λb=>tag b=100+ay L.fp n q c) (ay L.fp n q c) (ay L.fl n l' c) _ _/\_
  by_cases g:c=n
  ·subst g
   rw[aA] at u
   cases u
   rw[aA,aA];exact⟨B,A⟩
  ·rw[ag _ _ g] at u
   rw[ag _ _ g,ag _ _ g];exact e.p16 c f u (rF (by decide)),λa b m o l=>by
  rw[v] at m o;have l:ay L.fp n q a=ay L.fp n q b:=l
  by_cases r:a=n<;>by_cases t:b=n
  ·rw[r,t]
  ·subst r
   rw[ag _ _ t] at o;rw[aA,ag _ _ t] at l;exact absurd l.symm (y b o)
  ·subst t
   rw[ag _ _ r] at m;rw[aA,ag _ _ r] at l;exact absurd l (y a m)
  ·rw[ag _ _ r] at m
   rw[ag _ _ t] at o;rw[ag _ _ r,ag _ _ t] at l;exact e.p17 a b m o l⟩
theorem aY.frameGone{cn:Nat}(d:aY [11] w tag L s)(g:tag L.fb=11/\aN Tryz.prog w 58 L.fb (iu (dY λc=>(s.T.fm c).map λ_=>ptr (L.fp c)) (aV n) none) cn):
 aX w tag {L with fn:=cn} {s with T:={s.T with fm:=ay s.T.fm n none}}:=by
 have r:(λc=>(ay s.T.fm n none c).map λ_=>ptr (L.fp c))=ay (λc=>(s.T.fm c).map λ_=>ptr (L.fp c)) n none:=by
  funext c
  by_cases e:c=n
  ·subst e
   rw[aA,aA];rfl
  ·rw[ag _ _ e,ag _ _ e]
 have q:∀c,({s with T:={s.T with fm:=ay s.T.fm n none}}:PS).T.fm c=ay s.T.fm n none c:=λ_=>rfl
 have l:∀c,ay s.T.fm n none c≠none->s.T.fm c≠none:=λc g=>by
  by_cases e:c=n
  ·subst e;rw[aA] at g;exact absurd rfl g
  ·rw[ag _ _ e] at g;exact g
 exact⟨d.tlt,λ_=>d.p1 (by decide),λ_=>d.p2 (by decide),λ_=>d.p3 (by decide),λ_ j p t=>d.p4 (by decide) j p t,λ_=>d.p5 (by decide),λ_=>d.p6 (by decide),λ_=>d.p7 (by decide),λ_=>d.p8 (by decide),λ_=>d.p9 (by decide),λ_=>d.p10 (by decide),λ_=>by show _/\aN _ _ _ _ (dY λc=>(ay s.T.fm n none c).map λ_=>ptr (L.fp c)) _;rw[r,<-lu];exact g,λ_=>d.p12 (by decide),λ_=>d.p13 (by decide),λ_=>d.p14 (by decide),λ_=>d.p15 (by decide),λc f k _=>by
  rw[q] at k;have e:c≠n:=λe=>by rw[e,aA] at k;cases k
  rw[ag _ _ e] at k;exact d.p16 c f k (rF (by decide)),λa b m o=>d.p17 a b (l a m) (l b o)⟩
theorem aY.fillQ{qv':Value}{q':List Nm}(a:aY [1,6] w tag L s)(c:tag L.pb=1/\ae w L.pb 123 (bB {L with qv:=qv'}))(d:rq w (λb=>tag b=6) qv' q'/\∀n∈q',dh n):aX w tag {L with qv:=qv'} {s with queue:=q'}:=
 ⟨a.tlt,λ_=>c,λ_=>a.p2 (by decide),λ_=>a.p3 (by decide),λ_ j p g=>a.p4 (by decide) j p g,λ_=>a.p5 (by decide),λ_=>d,λ_=>a.p7 (by decide),λ_=>a.p8 (by decide),λ_=>a.p9 (by decide),λ_=>a.p10 (by decide),λ_=>a.p11 (by decide),λ_=>a.p12 (by decide),λ_=>a.p13 (by decide),λ_=>a.p14 (by decide),λ_=>a.p15 (by decide),λn f e _=>a.p16 n f e (by simp;omega),a.p17⟩
theorem aY.fillD{dv':Value}{dn':List (Nm×Nat×aD)}(a:aY [1,7] w tag L s)(c:tag L.pb=1/\ae w L.pb 123 (bB {L with dv:=dv',dn:=dn'}))(d:(∀b,dv'.ownBlock=some b->tag b=7)/\w.ownsRow 0 69 5 dv' dn'.length (dn'.flatMap jH)):aX w tag {L with dv:=dv',dn:=dn'} s:=
 ⟨a.tlt,λ_=>c,λ_=>a.p2 (by decide),λ_=>a.p3 (by decide),λ_ j p g=>a.p4 (by decide) j p g,λ_=>a.p5 (by decide),λ_=>a.p6 (by decide),λ_=>d,λ_=>a.p8 (by decide),λ_=>a.p9 (by decide),λ_=>a.p10 (by decide),λ_=>a.p11 (by decide),λ_=>a.p12 (by decide),λ_=>a.p13 (by decide),λ_=>a.p14 (by decide),λ_=>a.p15 (by decide),λn f e _=>a.p16 n f e (by simp;omega),a.p17⟩
theorem aY.fillN{nms':List Nm}(a:aY [9,10] w tag L s)(c:tag L.nb=9/\aN Tryz.prog w 58 L.nb (dY (iW nms')) nms'.length)(b:tag L.mm=10/\aN Tryz.prog w 2 L.mm (gI .i64 (iq nms')) nms'.length/\∀n∈nms',dh n):aX w tag L {s with nms:=nms'}:=
 ⟨a.tlt,λ_=>a.p1 (by decide),λ_=>a.p2 (by decide),λ_=>a.p3 (by decide),λ_ j p e=>a.p4 (by decide) j p e,λ_=>a.p5 (by decide),λ_=>a.p6 (by decide),λ_=>a.p7 (by decide),λ_=>a.p8 (by decide),λ_=>c,λ_=>b,λ_=>a.p11 (by decide),λ_=>a.p12 (by decide),λ_=>a.p13 (by decide),λ_=>a.p14 (by decide),λ_=>a.p15 (by decide),λn f d _=>a.p16 n f d (by simp;omega),a.p17⟩
theorem aY.fill14{ro':Nm->Option Int}{c:Nat}(a:aY [14] w tag L s)(b:tag L.ob=14/\aN Tryz.prog w 58 L.ob (dY λn=>(ro' n).map (Value.int .i64)) c):aX w tag {L with on:=c} {s with roots:=ro'}:=
 ⟨a.tlt,λ_=>a.p1 (by decide),λ_=>a.p2 (by decide),λ_=>a.p3 (by decide),λ_ j p e=>a.p4 (by decide) j p e,λ_=>a.p5 (by decide),λ_=>a.p6 (by decide),λ_=>a.p7 (by decide),λ_=>a.p8 (by decide),λ_=>a.p9 (by decide),λ_=>a.p10 (by decide),λ_=>a.p11 (by decide),λ_=>a.p12 (by decide),λ_=>a.p13 (by decide),λ_=>b,λ_=>a.p15 (by decide),λn f d _=>a.p16 n f d (rF (by decide)),a.p17⟩
end
end
end Go.Proofs.YtmdocplknceilaaGreat
