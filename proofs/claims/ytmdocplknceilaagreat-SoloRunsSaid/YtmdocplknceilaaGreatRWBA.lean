import Derived.Test.YtmdocplknceilaaGreatRWAL
import Derived.Test.YtmdocplknceilaaGreatRWAX
set_option linter.all false
set_option maxRecDepth 100000
set_option maxHeartbeats 4000000
namespace Go.Proofs.YtmdocplknceilaaGreat
section
open Go.RowKit Go.Maps
def ptr(b:Nat):Value:=.pointer (some ⟨b,0,none⟩)
def gI(kd:IntKind)(f:Int->Option Value):Value->Option Value
 | .int k x=>if k=kd then f x else none
 |_=>none
theorem nh(kd:IntKind)(f:Int->Option Value)(x:Int):gI kd f (.int kd x)=f x:=by simp[gI]
theorem AJ(kd:IntKind)(f:Int->Option Value)(x:Int)(v:Option Value):iW (gI kd f) (.int kd x) v=gI kd (λy=>if y=x then v else f y):=by
 funext key
 by_cases a:key=.int kd x
 ·subst a
  rw[kY,nh,yf rfl]
 ·rw[kx _ _ a]
  unfold gI;split
  ·rename_i k y
   split
   ·rename_i c
    subst c;show f y=if y=x then v else f y
    rw[yb (λb=>a (by rw[b]))]
   ·rfl
  ·rfl
theorem ub:Keyed Tryz.prog 2:=int_keyed Tryz.underlying2
theorem oI:Keyed Tryz.prog 54:=int_keyed Tryz.underlying54
def rJ(w:World)(F:Nat->Prop)(v:Value)(q:List Nm):Prop:=
 (v=.slice none 0 0/\q= [])\/∃g o c cur,v=.slice (some ⟨g,o,none⟩) q.length c/\F g/\ae w g 58 cur/\q.length<=c/\o+c*2<=cur.size/\c<=maxLen/\
  ∀(i:Nat) (n:Nm),q[i]?=some n->cur[o+i*2]?=some (.int .u64 n.job)/\cur[o+i*2+1]?=some (.string (sB n.M))
def gg(x:Nm×Nat×aL):List Value:=[.int .u64 x.1.job,.string (sB x.1.M),.int .i64 (x.2.1:Int),.int .i64 x.2.2.v,.int .i64 x.2.2.e]
structure cN where
 pb:Nat
 thr:Int
 log:Int
 most:Int
 hv:Value
 tps:List Nat
 tb:Nat
 mb:Nat
 rp:Nm->Nat
 gb:Nat
 pA:Int->Option Addr×Nat
 pn:Nat
 qv:Value
 nb:Nat
 mm:Nat
 fb:Nat
 fp:Nm->Nat
 fl:Nm->iC
 fn:Nat
 kb:Nat
 kn:Nat
 ab:Nat
 an:Nat
 ob:Nat
 on:Nat
 dv:Value
 dn:List (Nm×Nat×aL)
 m:Nat
 n:Int
 v:Value
 dp:List Nat
 ps:List (List Nat)
def bJ(L:cN):Array Value:=
 #[.int .i64 L.thr,.int .i64 L.log,.int .i64 L.most,L.hv,ptr L.tb,.map (some L.gb),L.qv,.map (some L.nb),.map (some L.mm),.map (some L.fb),.map (some L.kb),.map (some L.ab),.map (some L.ob),L.dv]
def dQ(av:Value)(kind:Nat)(d:Nat)(cur:Nm)(fv:Value):Array Value:=#[av,.int .i64 (kind:Int),ptr d,.int .u64 cur.job,.string (sB cur.M),fv]
def xZ(w:World)(tag:Nat->Nat)(L:cN)(k:Nat)(th:Th):Prop:=
 ∃tp d av fv,L.tps[k]?=some tp/\tag tp=15/\L.dp[k]?=some d/\ae w tp 131 (dQ av th.kn d th.cur fv)/\(th.act=none->av=.pointer none)/\
  (∀j i,th.act=some (j,i)->∃pl p,L.ps[j]?=some pl/\pl[i]?=some p/\av=ptr p)/\(th.run=true->fv=ptr (L.fp th.cur))/\(th.run=false->fv=.pointer none)
noncomputable def ja(nms:List Nm)(n:Nm):Option Value:=open Classical in if h:∃v:Nat,nms[v]?=some n then some (.int .i64 ((Classical.choose h:Nat):Int)) else none
def iA(nms:List Nm)(v:Int):Option Value:=if v<0 then none else(nms[v.toNat]?).map aW
structure aX(X:List Nat)(w:World)(tag:Nat->Nat)(L:cN)(s:PS):Prop where
 tlt:∀b,tag b≠0->b<w.heap.size
 p1:1 ∉ X->tag L.pb=1/\ae w L.pb 123 (bJ L)
 p2:2 ∉ X->bS w (λb=>tag b=2) L.tb L.mb L.most s.T.rw s.T.ks.length L.rp
 p3:3 ∉ X->DW w (λb=>tag b=3) L.m L.n L.v s.C s.ds L.dp L.ps
 p4:4 ∉ X->∀j p,s.progs j=some p->cW w (λb=>tag b=4) (L.pA j).1 p
 p5:5 ∉ X->(∀b,L.hv.ownBlock=some b->tag b=5)/\w.ownsRow 0 124 1 L.hv L.tps.length (L.tps.map ptr)
 p6:6 ∉ X->rJ w (λb=>tag b=6) L.qv s.queue/\∀n∈s.queue,dE n
 p7:7 ∉ X->(∀b,L.dv.ownBlock=some b->tag b=7)/\w.ownsRow 0 69 5 L.dv L.dn.length (L.dn.flatMap gg)
 p8:8 ∉ X->tag L.gb=8/\aS Tryz.prog w 54 L.gb (gI .u64 λj=>(s.progs j).map λp=>aM p (L.pA j).1 (L.pA j).2) L.pn
 p9:9 ∉ X->tag L.nb=9/\aS Tryz.prog w 58 L.nb (eE (ja s.nms)) s.nms.length
 p10:10 ∉ X->tag L.mm=10/\aS Tryz.prog w 2 L.mm (gI .i64 (iA s.nms)) s.nms.length/\∀n∈s.nms,dE n
 p11:11 ∉ X->tag L.fb=11/\aS Tryz.prog w 58 L.fb (eE λn=>(s.T.fm n).map λ_=>ptr (L.fp n)) L.fn
 p12:12 ∉ X->tag L.kb=12/\aS Tryz.prog w 58 L.kb (eE λn=>(s.known n).map eV) L.kn
 p13:13 ∉ X->tag L.ab=13/\aS Tryz.prog w 58 L.ab (eE λn=>if s.away n=true then some (.int .i64 1) else none) L.an
 p14:14 ∉ X->tag L.ob=14/\aS Tryz.prog w 58 L.ob (eE λn=>(s.roots n).map (Value.int .i64)) L.on
 p15:15 ∉ X->L.tps.length=s.ths.length/\(∀(k:Nat) (th:Th),s.ths[k]?=some th->xZ w tag L k th)/\∀(i j tp:Nat),L.tps[i]?=some tp->L.tps[j]?=some tp->i=j
 p16:∀n f,s.T.fm n=some f->100+L.fp n ∉ X->aZ w (λb=>tag b=100+L.fp n) (L.fp n) (L.fl n) (s.prog n.job) f/\(f.result=none->gQ (s.prog n.job) f)
 p17:∀n m,s.T.fm n≠none->s.T.fm m≠none->L.fp n=L.fp m->n=m
abbrev aY:=aX []
section
variable {w w':World}{tag tag':Nat->Nat}{L L':cN}{s s':PS}{X:List Nat}{S:Nat->Prop}{i:Nat}
theorem rJ.kp{F d:Nat->Prop}{v:Value}{q:List Nm}(a:rJ w F v q)(p:aa S w w')(m:∀b,F b->¬S b)(l:∀b,F b->d b):rJ w' d v q:=by
 rcases a with a|⟨g,o,c,cur,f,e,j,k⟩
 ·exact .inl a
 ·exact .inr ⟨g,o,c,cur,f,l _ e,p.J j (m _ e),k⟩
theorem aX.keepL{Y:List Nat}(e:aX X w tag L s)(q:aa S w w')(F:∀b,S b->tag b∈Y)(Q:∀b,tag b≠0->tag' b=tag b)(K:∀b,tag' b≠0->b<w'.heap.size):aX (Y++X) w' tag' L s:=by
 have o:∀j,j ∉ Y++X->∀b,tag b=j->¬S b:=λj a b t P=>a (by rw[<-t];exact List.mem_append_left _ (F b P))
 have l:∀j,j ∉ Y++X->j ∉ X:=λj a B=>a (List.mem_append_right _ B)
 have m:∀j,j≠0->∀b,tag b=j->tag' b=j:=λj A b t=>by rw[Q b (by rw[t];exact A)];exact t
 have y:∀{j:Nat} {k:TypeId} {b:Nat} {g:Value->Option Value} {c:Nat},j≠0->j ∉ Y++X->(j ∉ X->tag b=j/\aS Tryz.prog w k b g c)->tag' b=j/\aS Tryz.prog w' k b g c:=λA a x=>⟨m _ A _ (x (l _ a)).1,(x (l _ a)).2.only q (o _ a _ (x (l _ a)).1)⟩
 have D:∀{j:Nat} {B:TypeId} {z n:Nat} {v:Value} {xs:List Value},j≠0->j ∉ Y++X->(j ∉ X->(∀b,v.ownBlock=some b->tag b=j)/\w.ownsRow 0 B z v n xs)->(∀b,v.ownBlock=some b->tag' b=j)/\w'.ownsRow 0 B z v n xs:=λA a x=>
  ⟨λb t=>m _ A _ ((x (l _ a)).1 b t),q.owns (x (l _ a)).2 (λb t=>o _ a _ ((x (l _ a)).1 b t))⟩
 refine⟨K,λa=>?_,λa=>?_,λa=>?_,λa j p N=>?_,λa=>D (by decide) a e.p5,λa=>?_,λa=>D (by decide) a e.p7,λa=>y (by decide) a e.p8,λa=>y (by decide) a e.p9,λa=>by
  obtain⟨r,u,C⟩:=e.p10 (l _ a);exact⟨m _ (by decide) _ r,u.only q (o _ a _ r),C⟩,
  λa=>y (by decide) a e.p11,λa=>y (by decide) a e.p12,λa=>y (by decide) a e.p13,λa=>y (by decide) a e.p14,λa=>?_,λn f G a=>?_,e.p17⟩
 ·obtain⟨r,u⟩:=e.p1 (l _ a)
  exact⟨m _ (by decide) _ r,q.J u (o _ a _ r)⟩
 ·exact((e.p2 (l _ a)).kp q (o _ a)).mo (m _ (by decide))
 ·exact((e.p3 (l _ a)).kp q (o _ a)).mo (m _ (by decide))
 ·exact((e.p4 (l _ a) j p N).kp q (o _ a)).mo (m _ (by decide))
 ·exact⟨(e.p6 (l _ a)).1.kp q (o _ a) (m _ (by decide)),(e.p6 (l _ a)).2⟩
 ·obtain⟨r,u,C⟩:=e.p15 (l _ a)
  refine⟨r,λk th H=>?_,C⟩;obtain⟨tp,d,av,fv,R,E,T,V,W⟩:=u k th H;exact⟨tp,d,av,fv,R,m _ (by decide) _ E,T,q.J V (o _ a _ E),W⟩
 ·obtain⟨r,u⟩:=e.p16 n f G (l _ a)
  exact⟨(r.kp q (o _ a)).mo (m _ (by omega)),u⟩
theorem aX.kp(a:aX X w tag L s)(f:aa S w w')(c:∀b,S b->tag b=i)(g:∀b,tag b≠0->tag' b=tag b)(e:∀b,tag' b≠0->b<w'.heap.size):aX (i :: X) w' tag' L s:=
 a.keepL (Y:=[i]) f (λb d=>by rw[c b d];exact yw.2 rfl) g e
theorem aX.mono{Y:List Nat}(c:aX X w tag L s)(d:∀j,j≠0->j∈X->j∈Y):aX Y w tag L s:=
 ⟨c.tlt,
  λb=>c.p1 λa=>b (d 1 (by decide) a),
  λb=>c.p2 λa=>b (d 2 (by decide) a),
  λb=>c.p3 λa=>b (d 3 (by decide) a),
  λb=>c.p4 λa=>b (d 4 (by decide) a),
  λb=>c.p5 λa=>b (d 5 (by decide) a),
  λb=>c.p6 λa=>b (d 6 (by decide) a),
  λb=>c.p7 λa=>b (d 7 (by decide) a),
  λb=>c.p8 λa=>b (d 8 (by decide) a),
  λb=>c.p9 λa=>b (d 9 (by decide) a),
  λb=>c.p10 λa=>b (d 10 (by decide) a),
  λb=>c.p11 λa=>b (d 11 (by decide) a),
  λb=>c.p12 λa=>b (d 12 (by decide) a),
  λb=>c.p13 λa=>b (d 13 (by decide) a),
  λb=>c.p14 λa=>b (d 14 (by decide) a),
  λb=>c.p15 λa=>b (d 15 (by decide) a),
  λn f e b=>c.p16 n f e λa=>b (d _ (by omega) a),
  c.p17⟩
def cS(tag:Nat->Nat)(w w':World)(i:Nat)(b:Nat):Nat:=if w.heap.size<=b/\b<w'.heap.size then i else tag b
theorem bL(a:∀b,tag b≠0->b<w.heap.size)(b:Nat)(c:tag b≠0):cS tag w w' i b=tag b:=by
 unfold cS;rw[yb (λd=>by have:=a b c;omega)]
theorem fS{b:Nat}(a:w.heap.size<=b/\b<w'.heap.size):cS tag w w' i b=i:=by
 unfold cS;rw[yf a]
theorem sf(d:∀b,tag b≠0->b<w.heap.size)(e:w.heap.size<=w'.heap.size)(b:Nat)(a:cS tag w w' i b≠0):b<w'.heap.size:=by
 unfold cS at a;split at a
 ·rename_i c;exact c.2
 ·exact lL (d b a) e
theorem kK(c:∀b,tag b≠0->b<w.heap.size)(e:i≠0)(b:Nat)(d:tag b=i\/w.heap.size<=b/\b<w'.heap.size):cS tag w w' i b=i:=by
 rcases d with a|a
 ·rw[bL c b (by rw[a];exact e)];exact a
 ·exact fS a
theorem kL(b:Nat)(a:cS tag w w' i b≠0):tag b≠0\/w.heap.size<=b:=by
 unfold cS at a;split at a
 ·rename_i c;exact .inr c.1
 ·exact .inl a
theorem aX.part(a:aX X w tag L s)(c:aa (λb=>tag b=i) w w'):aX (i :: X) w' (cS tag w w' i) L s:=
 a.kp c (λb d=>d) (bL a.tlt) (sf a.tlt c.size)
structure aQ(w w':World)(tag tag':Nat->Nat):Prop where
 only:aa (λb=>tag b≠0) w w'
 old:∀b,tag b≠0->tag' b=tag b
 new:∀b,tag' b≠0->tag b≠0\/w.heap.size<=b
theorem aQ.trans{f:World}{e:Nat->Nat}(a:aQ w w' tag tag')(k:aQ w' f tag' e):aQ w f tag e:=
 ⟨a.only.trans' k.only a.new,λb c=>(k.old b (by rw[a.old b c];exact c)).trans (a.old b c),λb c=>by
  rcases k.new b c with d|d
  ·exact a.new b d
  ·exact .inr (lT a.only.size d)⟩
theorem aQ.part(c:∀b,tag b≠0->b<w.heap.size)(d:i≠0)(e:aa (λb=>tag b=i) w w'):aQ w w' tag (cS tag w w' i):=
 ⟨e.mono λb a=>by rw[a];exact d,bL c,kL⟩
theorem aQ.U(d:ac w w'):aQ w w' tag tag:=⟨d.mono λ_ a=>a.elim,λ_ _=>rfl,λb c=>.inl c⟩
theorem aX.U(c:aX X w tag L s)(d:ac w w'):aX X w' tag L s:=
 (c.kp (i:=0) d (λ_ a=>a.elim) (λ_ _=>rfl) (λb f=>lL (c.tlt b f) d.size)).mono λj e g=>by
  rcases yG.1 g with a|a
  ·exact absurd a e
  ·exact a
end
theorem jN{j q:Nat}(a:j<100):j ∉ [100+q]:=by simp;omega
theorem Gx{q r:Nat}(a:q≠r):100+q ∉ [100+r]:=by simp;omega
theorem rW{q j:Nat}(a:j<100):100+q ∉ [j]:=by simp;omega
section
variable {w w':World}{tag tag':Nat->Nat}{L L':cN}{s s':PS}{X:List Nat}{S:Nat->Prop}{i:Nat}{n:Nm}
theorem aX.fill2{T':TS}{rp':Nm->Nat}(a:aX [2] w tag L s)(g:bS w (λb=>tag b=2) L.tb L.mb L.most T'.rw T'.ks.length rp')(c:T'.fm=s.T.fm):aY w tag {L with rp:=rp'} {s with T:=T'}:=
 ⟨a.tlt,λ_=>a.p1 (by decide),λ_=>g,λ_=>a.p3 (by decide),λ_ j p l=>a.p4 (by decide) j p l,λ_=>a.p5 (by decide),λ_=>a.p6 (by decide),λ_=>a.p7 (by decide),λ_=>a.p8 (by decide),λ_=>a.p9 (by decide),λ_=>a.p10 (by decide),λ_=>by show _/\aS _ _ _ _ (eE λn=>(T'.fm n).map _) _;rw[c];exact a.p11 (by decide),λ_=>a.p12 (by decide),λ_=>a.p13 (by decide),λ_=>a.p14 (by decide),λ_=>a.p15 (by decide),λn f k _=>a.p16 n f (by rw[<-c];exact k) (rW (by decide)),λn m d e=>a.p17 n m (by rw[<-c];exact d) (by rw[<-c];exact e)⟩
def je(ps ps':List (List Nat)):Prop:=∀(j i:Nat) (pl:List Nat) (p:Nat),ps[j]?=some pl->pl[i]?=some p->∃pl',ps'[j]?=some pl'/\pl'[i]?=some p
theorem je.refl(ps:List (List Nat)):je ps ps:=λj i pl p a b=>⟨pl,a,b⟩
theorem je.snoc{ps:List (List Nat)}{j:Nat}{pl:List Nat}(d:ps[j]?=some pl)(q:Nat):je ps (ps.set j (pl++ [q])):=by
 intro k i e p a b
 by_cases c:k=j
 ·subst c
  rw[d] at a
  cases a
  exact⟨pl++ [q],bH (gS d).1,by rw[yi (gS b).1];exact b⟩
 ·exact⟨e,by rw[dG c];exact a,b⟩
theorem xZ.ps{k:Nat}{th:Th}{ps':List (List Nat)}{n':Int}{A:Value}(b:xZ w tag L k th)(c:je L.ps ps'):xZ w tag {L with n:=n',v:=A,ps:=ps'} k th:=by
 obtain⟨tp,d,av,fv,o,q,r,t,u,x,y⟩:=b;refine⟨tp,d,av,fv,o,q,r,t,u,λj i a=>?_,y⟩;obtain⟨pl,p,e,f,g⟩:=x j i a;obtain⟨z,l,m⟩:=c j i pl p e f;exact⟨z,p,l,m,g⟩
theorem aX.fill3{C':List Int}{d:List aT}{n':Int}{e:Value}{ps':List (List Nat)}(a:aX [3] w tag L s)(g:DW w (λb=>tag b=3) L.m n' e C' d L.dp ps')(c:je L.ps ps'):aY w tag {L with n:=n',v:=e,ps:=ps'} {s with C:=C',ds:=d}:=
 ⟨a.tlt,λ_=>a.p1 (by decide),λ_=>a.p2 (by decide),λ_=>g,λ_ j p c=>a.p4 (by decide) j p c,λ_=>a.p5 (by decide),λ_=>a.p6 (by decide),λ_=>a.p7 (by decide),λ_=>a.p8 (by decide),λ_=>a.p9 (by decide),λ_=>a.p10 (by decide),λ_=>a.p11 (by decide),λ_=>a.p12 (by decide),λ_=>a.p13 (by decide),λ_=>a.p14 (by decide),λ_=>⟨(a.p15 (by decide)).1,λk th o=>((a.p15 (by decide)).2.1 k th o).ps c,(a.p15 (by decide)).2.2⟩,λn f l _=>a.p16 n f l (rW (by decide)),a.p17⟩
theorem aX.thread{k tp d:Nat}{th:Th}{av fv:Value}(th':Th)(a:aY w tag L s)(P:s.ths[k]?=some th)(t:L.tps[k]?=some tp)(K:L.dp[k]?=some d)(r:aa (λb=>b=tp) w w')(o:ae w' tp 131 (dQ av th'.kn d th'.cur fv))
 (G:th'.act=none->av=.pointer none) (H:∀j i,th'.act=some (j,i)->∃pl p,L.ps[j]?=some pl/\pl[i]?=some p/\av=ptr p) (q:th'.run=true->fv=ptr (L.fp th'.cur)) (N:th'.run=false->fv=.pointer none):
 aY w' tag L {s with ths:=s.ths.set k th'}:=by
 obtain⟨F,x,y⟩:=a.p15 (by decide)
 have A:tag tp=15:=by
  obtain⟨v,_,_,_,c,u,_⟩:=x k th P;rw[t] at c
  cases c
  exact u
 have z:=a.kp (i:=15) (tag':=tag) r (λb e=>by rw[e];exact A) (λ_ _=>rfl) (λb o=>lL (a.tlt b o) r.size);obtain⟨a,rfl⟩ :∃E:aX [15] w' tag L s,E=z:=⟨z,rfl⟩
 exact⟨a.tlt,λ_=>a.p1 (by decide),λ_=>a.p2 (by decide),λ_=>a.p3 (by decide),λ_ j p R=>a.p4 (by decide) j p R,λ_=>a.p5 (by decide),λ_=>a.p6 (by decide),λ_=>a.p7 (by decide),λ_=>a.p8 (by decide),λ_=>a.p9 (by decide),λ_=>a.p10 (by decide),λ_=>a.p11 (by decide),λ_=>a.p12 (by decide),λ_=>a.p13 (by decide),λ_=>a.p14 (by decide),λ_=>⟨by show L.tps.length=(s.ths.set k th').length;rw[yI];exact F,λl Y Q=>by
  rcases dH Q with⟨g,m⟩|⟨g,m⟩
  ·subst g
   subst m;exact⟨tp,d,av,fv,t,A,K,o,G,H,q,N⟩
  ·obtain⟨v,C,B,D,c,u,T,V,W⟩:=x l Y m
   exact⟨v,C,B,D,c,u,T,r.J V (λe=>g (y l k v c (by rw[e];exact t))),W⟩,y⟩,λn f q _=>a.p16 n f q (rW (by decide)),a.p17⟩
theorem aX.frame{q:Nat}{l':iC}{f':Fr}(t:q=L.fp n)(c:aX [100+q] w tag L s)(m:s.T.fm n≠none)(x:aZ w (λb=>tag b=100+q) q l' (s.prog n.job) f')(v:f'.result=none->gQ (s.prog n.job) f'):
 aY w tag {L with fl:=ax L.fl n l'} {s with T:={s.T with fm:=ax s.T.fm n (some f')}}:=by
 have e:(λa=>(ax s.T.fm n (some f') a).map λ_=>ptr (L.fp a))=λa=>(s.T.fm a).map λ_=>ptr (L.fp a):=by
  funext a
  by_cases d:a=n
  ·subst d
   rw[ay]
   cases l:s.T.fm a with
   |none=>exact absurd l m
   |some f=>rfl
  ·rw[ag _ _ d]
 have r:∀a,ax s.T.fm n (some f') a≠none->s.T.fm a≠none:=λa e=>by
  by_cases d:a=n
  ·subst d;exact m
  ·rw[ag _ _ d] at e;exact e
 exact⟨c.tlt,λ_=>c.p1 (jN (by decide)),λ_=>c.p2 (jN (by decide)),λ_=>c.p3 (jN (by decide)),λ_ j p y=>c.p4 (jN (by decide)) j p y,λ_=>c.p5 (jN (by decide)),λ_=>c.p6 (jN (by decide)),λ_=>c.p7 (jN (by decide)),λ_=>c.p8 (jN (by decide)),λ_=>c.p9 (jN (by decide)),λ_=>c.p10 (jN (by decide)),λ_=>by show _/\aS _ _ _ _ (eE λa=>(ax s.T.fm n (some f') a).map λ_=>ptr (L.fp a)) _;rw[e];exact c.p11 (jN (by decide)),λ_=>c.p12 (jN (by decide)),λ_=>c.p13 (jN (by decide)),λ_=>c.p14 (jN (by decide)),λ_=>c.p15 (jN (by decide)),λa f e _=>by
  by_cases d:a=n
  ·subst d
   have g:f=f':=by rw[show({s with T:={s.T with fm:=ax s.T.fm a (some f')}}:PS).T.fm a=ax s.T.fm a (some f') a from rfl,ay] at e;exact(yz e).symm
   subst g;refine⟨?_,v⟩;show aZ w (λb=>tag b=100+L.fp a) (L.fp a) (ax L.fl a l' a) _ _;rw[ay,<-t];exact x
  ·have o:s.T.fm a=some f:=by rw[show({s with T:={s.T with fm:=ax s.T.fm n (some f')}}:PS).T.fm a=ax s.T.fm n (some f') a from rfl,ag _ _ d] at e;exact e
   have:=c.p16 a f o (Gx (λg=>d (c.p17 a n (by rw[o];simp) m (by rw[g,t]))));refine⟨?_,this.2⟩;show aZ w _ (L.fp a) (ax L.fl n l' a) _ _;rw[ag _ _ d];exact this.1,λa k l u=>c.p17 a k (r a l) (r k u)⟩
theorem aX.frameNew{q cn:Nat}{l':iC}{f':Fr}(e:aX [11] w tag L s)(W:s.T.fm n=none)(F:∀(k:Nat) (th:Th),s.ths[k]?=some th->th.run=true->th.cur≠n)(B:aZ w (λb=>tag b=100+q) q l' (s.prog n.job) f')(A:f'.result=none->gQ (s.prog n.job) f')
 (y:∀c,s.T.fm c≠none->L.fp c≠q) (D:tag L.fb=11/\aS Tryz.prog w 58 L.fb (iW (eE λc=>(s.T.fm c).map λ_=>ptr (L.fp c)) (aW n) (some (ptr q))) cn):
 aY w tag {L with fp:=ax L.fp n q,fl:=ax L.fl n l',fn:=cn} {s with T:={s.T with fm:=ax s.T.fm n (some f')}}:=by
 have C:(λc=>(ax s.T.fm n (some f') c).map λ_=>ptr (ax L.fp n q c))=ax (λc=>(s.T.fm c).map λ_=>ptr (L.fp c)) n (some (ptr q)):=by
  funext c
  by_cases g:c=n
  ·subst g
   rw[ay,ay,ay];rfl
  ·rw[ag _ _ g,ag _ _ g,ag _ _ g]
 have v:∀c,({s with T:={s.T with fm:=ax s.T.fm n (some f')}}:PS).T.fm c=ax s.T.fm n (some f') c:=λ_=>rfl
 exact⟨e.tlt,λ_=>e.p1 (by decide),λ_=>e.p2 (by decide),λ_=>e.p3 (by decide),λ_ j p E=>e.p4 (by decide) j p E,λ_=>e.p5 (by decide),λ_=>e.p6 (by decide),λ_=>e.p7 (by decide),λ_=>e.p8 (by decide),λ_=>e.p9 (by decide),λ_=>e.p10 (by decide),λ_=>by show _/\aS _ _ _ _ (eE λc=>(ax s.T.fm n (some f') c).map λ_=>ptr (ax L.fp n q c)) _;rw[C,<-mQ];exact D,λ_=>e.p12 (by decide),λ_=>e.p13 (by decide),λ_=>e.p14 (by decide),λ_=>by
  obtain⟨m,o,z⟩:=e.p15 (by decide);refine⟨m,λk th x=>?_,z⟩;obtain⟨tp,d,av,fv,G,H,K,N,P,Q,R,V⟩:=o k th x;refine⟨tp,d,av,fv,G,H,K,N,P,Q,λg=>?_,V⟩;show fv=ptr (ax L.fp n q th.cur);rw[ag _ _ (F k th x g)];exact R g,λc f u _=>by
  rw[v] at u;show aZ w (λb=>tag b=100+ax L.fp n q c) (ax L.fp n q c) (ax L.fl n l' c) _ _/\_
  by_cases g:c=n
  ·subst g
   rw[ay] at u
   cases u
   rw[ay,ay];exact⟨B,A⟩
  ·rw[ag _ _ g] at u
   rw[ag _ _ g,ag _ _ g];exact e.p16 c f u (rW (by decide)),λa b m o l=>by
  rw[v] at m o;have l:ax L.fp n q a=ax L.fp n q b:=l
  by_cases r:a=n<;>by_cases t:b=n
  ·rw[r,t]
  ·subst r
   rw[ag _ _ t] at o;rw[ay,ag _ _ t] at l;exact absurd l.symm (y b o)
  ·subst t
   rw[ag _ _ r] at m;rw[ay,ag _ _ r] at l;exact absurd l (y a m)
  ·rw[ag _ _ r] at m
   rw[ag _ _ t] at o;rw[ag _ _ r,ag _ _ t] at l;exact e.p17 a b m o l⟩
theorem aX.frameGone{cn:Nat}(d:aX [11] w tag L s)(g:tag L.fb=11/\aS Tryz.prog w 58 L.fb (iW (eE λc=>(s.T.fm c).map λ_=>ptr (L.fp c)) (aW n) none) cn):
 aY w tag {L with fn:=cn} {s with T:={s.T with fm:=ax s.T.fm n none}}:=by
 have r:(λc=>(ax s.T.fm n none c).map λ_=>ptr (L.fp c))=ax (λc=>(s.T.fm c).map λ_=>ptr (L.fp c)) n none:=by
  funext c
  by_cases e:c=n
  ·subst e
   rw[ay,ay];rfl
  ·rw[ag _ _ e,ag _ _ e]
 have q:∀c,({s with T:={s.T with fm:=ax s.T.fm n none}}:PS).T.fm c=ax s.T.fm n none c:=λ_=>rfl
 have l:∀c,ax s.T.fm n none c≠none->s.T.fm c≠none:=λc g=>by
  by_cases e:c=n
  ·subst e;rw[ay] at g;exact absurd rfl g
  ·rw[ag _ _ e] at g;exact g
 exact⟨d.tlt,λ_=>d.p1 (by decide),λ_=>d.p2 (by decide),λ_=>d.p3 (by decide),λ_ j p t=>d.p4 (by decide) j p t,λ_=>d.p5 (by decide),λ_=>d.p6 (by decide),λ_=>d.p7 (by decide),λ_=>d.p8 (by decide),λ_=>d.p9 (by decide),λ_=>d.p10 (by decide),λ_=>by show _/\aS _ _ _ _ (eE λc=>(ax s.T.fm n none c).map λ_=>ptr (L.fp c)) _;rw[r,<-mQ];exact g,λ_=>d.p12 (by decide),λ_=>d.p13 (by decide),λ_=>d.p14 (by decide),λ_=>d.p15 (by decide),λc f k _=>by
  rw[q] at k;have e:c≠n:=λe=>by rw[e,ay] at k;cases k
  rw[ag _ _ e] at k;exact d.p16 c f k (rW (by decide)),λa b m o=>d.p17 a b (l a m) (l b o)⟩
theorem aX.fillQ{qv':Value}{q':List Nm}(a:aX [1,6] w tag L s)(c:tag L.pb=1/\ae w L.pb 123 (bJ {L with qv:=qv'}))(d:rJ w (λb=>tag b=6) qv' q'/\∀n∈q',dE n):aY w tag {L with qv:=qv'} {s with queue:=q'}:=
 ⟨a.tlt,λ_=>c,λ_=>a.p2 (by decide),λ_=>a.p3 (by decide),λ_ j p g=>a.p4 (by decide) j p g,λ_=>a.p5 (by decide),λ_=>d,λ_=>a.p7 (by decide),λ_=>a.p8 (by decide),λ_=>a.p9 (by decide),λ_=>a.p10 (by decide),λ_=>a.p11 (by decide),λ_=>a.p12 (by decide),λ_=>a.p13 (by decide),λ_=>a.p14 (by decide),λ_=>a.p15 (by decide),λn f e _=>a.p16 n f e (by simp;omega),a.p17⟩
theorem aX.fillD{dv':Value}{dn':List (Nm×Nat×aL)}(a:aX [1,7] w tag L s)(c:tag L.pb=1/\ae w L.pb 123 (bJ {L with dv:=dv',dn:=dn'}))(d:(∀b,dv'.ownBlock=some b->tag b=7)/\w.ownsRow 0 69 5 dv' dn'.length (dn'.flatMap gg)):aY w tag {L with dv:=dv',dn:=dn'} s:=
 ⟨a.tlt,λ_=>c,λ_=>a.p2 (by decide),λ_=>a.p3 (by decide),λ_ j p g=>a.p4 (by decide) j p g,λ_=>a.p5 (by decide),λ_=>a.p6 (by decide),λ_=>d,λ_=>a.p8 (by decide),λ_=>a.p9 (by decide),λ_=>a.p10 (by decide),λ_=>a.p11 (by decide),λ_=>a.p12 (by decide),λ_=>a.p13 (by decide),λ_=>a.p14 (by decide),λ_=>a.p15 (by decide),λn f e _=>a.p16 n f e (by simp;omega),a.p17⟩
theorem aX.fillN{nms':List Nm}(a:aX [9,10] w tag L s)(c:tag L.nb=9/\aS Tryz.prog w 58 L.nb (eE (ja nms')) nms'.length)(b:tag L.mm=10/\aS Tryz.prog w 2 L.mm (gI .i64 (iA nms')) nms'.length/\∀n∈nms',dE n):aY w tag L {s with nms:=nms'}:=
 ⟨a.tlt,λ_=>a.p1 (by decide),λ_=>a.p2 (by decide),λ_=>a.p3 (by decide),λ_ j p e=>a.p4 (by decide) j p e,λ_=>a.p5 (by decide),λ_=>a.p6 (by decide),λ_=>a.p7 (by decide),λ_=>a.p8 (by decide),λ_=>c,λ_=>b,λ_=>a.p11 (by decide),λ_=>a.p12 (by decide),λ_=>a.p13 (by decide),λ_=>a.p14 (by decide),λ_=>a.p15 (by decide),λn f d _=>a.p16 n f d (by simp;omega),a.p17⟩
theorem aX.fill14{ro':Nm->Option Int}{c:Nat}(a:aX [14] w tag L s)(b:tag L.ob=14/\aS Tryz.prog w 58 L.ob (eE λn=>(ro' n).map (Value.int .i64)) c):aY w tag {L with on:=c} {s with roots:=ro'}:=
 ⟨a.tlt,λ_=>a.p1 (by decide),λ_=>a.p2 (by decide),λ_=>a.p3 (by decide),λ_ j p e=>a.p4 (by decide) j p e,λ_=>a.p5 (by decide),λ_=>a.p6 (by decide),λ_=>a.p7 (by decide),λ_=>a.p8 (by decide),λ_=>a.p9 (by decide),λ_=>a.p10 (by decide),λ_=>a.p11 (by decide),λ_=>a.p12 (by decide),λ_=>a.p13 (by decide),λ_=>b,λ_=>a.p15 (by decide),λn f d _=>a.p16 n f d (rW (by decide)),a.p17⟩
end
structure LK(L L':cN)(s s':PS)(d:Int):Prop where
 pb:L'.pb=L.pb
 mz:L'.most=L.most
 tp:L'.tps=L.tps
 dp:L'.dp=L.dp
 nn:L'.n<=L.n+d
 fn:(L'.fn:Int)<=L.fn+d
 nm:(s'.nms.length:Int)<=s.nms.length+d
 dn:∃x,s'.T.hist=s.T.hist++x/\L'.dn=L.dn++x
theorem LK.refl(L:cN)(s:PS):LK L L s s 0:=⟨rfl,rfl,rfl,rfl,by omega,by omega,by omega,[],by simp,by simp⟩
theorem LK.trans{L L' b:cN}{s s' e:PS}{d c:Int}(a:LK L L' s s' d)(k:LK L' b s' e c):LK L b s e (d+c):=by
 obtain⟨x,f,g⟩:=a.dn;obtain⟨y,j,l⟩:=k.dn;exact⟨k.pb.trans a.pb,k.mz.trans a.mz,k.tp.trans a.tp,k.dp.trans a.dp,by have:=a.nn;have:=k.nn;omega,by have:=a.fn;have:=k.fn;omega,by have:=a.nm;have:=k.nm;omega,x++y,by rw[j,f,yY],by rw[l,g,yY]⟩
theorem LK.mo{L L':cN}{s s':PS}{d b:Int}(a:LK L L' s s' d)(c:d<=b):LK L L' s s' b:=⟨a.pb,a.mz,a.tp,a.dp,by have:=a.nn;omega,by have:=a.fn;omega,by have:=a.nm;omega,a.dn⟩
def cP(w w':World)(tag:Nat->Nat)(L:cN)(s s':PS)(d:Int):Prop:=∃tag' L',aY w' tag' L' s'/\aQ w w' tag tag'/\LK L L' s s' d
structure mY(p:List ah):Prop where
 ok:gH p
 ck:bE p=0
 wf:∀x∈p,lI x
section
variable {w w':World}{tag tag':Nat->Nat}{L L':cN}{s s':PS}{i:Nat}{n:Nm}{X:List Nat}
theorem aX.same(c:aX X w tag L s)(d:aa (λb=>tag b=i) w w'):aX (i :: X) w' tag L s:=
 c.kp d (λb a=>a) (λ_ _=>rfl) (λb a=>lL (c.tlt b a) d.size)
theorem aQ.same(d:i≠0)(e:aa (λb=>tag b=i) w w'):aQ w w' tag tag:=⟨e.mono λb a=>by rw[a];exact d,λ_ _=>rfl,λb c=>.inl c⟩
theorem aX.tagB(a:aX X w tag L s)(d:i≠0):∀b,tag b=i->b<w.heap.size:=λb c=>a.tlt b (by rw[c];exact d)
theorem aX.retag(b:aX X w tag L s)(c:ac w w')(i:Nat):aX X w' (cS tag w w' i) L s:=
 (b.kp (i:=0) c (λ_ a=>a.elim) (bL b.tlt) (sf b.tlt c.size)).mono λj d e=>by
  rcases yG.1 e with a|a
  ·exact absurd a d
  ·exact a
theorem aQ.retag(c:∀b,tag b≠0->b<w.heap.size)(d:ac w w')(i:Nat):aQ w w' tag (cS tag w w' i):=⟨d.mono λ_ a=>a.elim,bL c,kL⟩
theorem vO(av:Value)(kd d:Nat)(cur n:Nm)(fv a:Value):(((dQ av kd d cur fv).setIfInBounds 3 (.int .u64 n.job)).setIfInBounds 4 (.string (sB n.M))).setIfInBounds 5 a=dQ av kd d n a:=by simp[dQ]
theorem ww(d:aY w tag L s)(k tp:Nat)(e:dE n)(b:∀r,s.T.rw n=some r->r.sa≠1/\r.sa≠4):dX s k n=s:=by
 unfold dX;split
 ·rfl
 ·rename_i r a
  rw[yb (λc=>by have:=b r a;omega)]
theorem BB(A:aY w tag L s)(tp:Nat)(u:dE n)(C:∀r,s.T.rw n=some r->r.sa≠1/\r.sa≠4):
 Calls Tryz.prog 84 #[ptr L.pb,ptr tp,aW n] w λk w'=>k=.returned (.tuple #[])/\ac w w':=by
 obtain⟨a,q⟩:=eX (w.alloc (.cells #[.int .u64 n.job,.string (sB n.M)] 58));have x:ac w a:=by rw[q];exact(aa.refl _ w).alloc _
 obtain⟨l,t⟩:=eX w.heap.size;have o:ae a l 58 #[.int .u64 n.job,.string (sB n.M)]:=by rw[q,t];exact bN
 have p:=A.U x;have B:=(p.p1 (by decide)).2;have z:=hD q.symm;have F:=hD t;have P:=hD u;have K:=hD p;have N:=hD o;have G:=hD x;have m:Hd (ac a (a.alloc (.cells #[.string ⟨#[]⟩,.int .i64 0,.slice none 0 0,.int .i64 0] 30))):=hD (oR.alloc _);have E:Hd (ae (a.alloc (.cells #[.string ⟨#[]⟩,.int .i64 0,.slice none 0 0,.int .i64 0] 30)) a.heap.size 30 #[.string ⟨#[]⟩,.int .i64 0,.slice none 0 0,.int .i64 0]):=hD (ae.new a _ _);have y:Hd (∀W,ac a W->Calls Tryz.prog 136 #[.pointer (some ⟨L.tb,0,none⟩),.agg #[.int .u64 n.job,.string (sB n.M)]] W λk w'=>∃c,k=.returned (.tuple #[.agg #[.string ⟨#[]⟩,.int .i64 0,.slice none 0 0,.int .i64 0],.int .i64 c])/\(c !=0)=true/\ac W w'):=hD λW g=>Ck ((p.U g).p2 (by decide)) u C
 have d:Hd (∀W,ac a W->ac a W/\W.cell? ⟨L.pb,4,none⟩=some (.pointer (some ⟨L.tb,0,none⟩))/\W.cell? ⟨l,0,none⟩=some (.int .u64 n.job)/\W.cell? ⟨l,1,none⟩=some (.string (sB n.M))):=hD λW g=>⟨g,(g.J B nF).I 4,(g.J o nF).I 0,(g.J o nF).I 1⟩
 have a3:=d.O a oR;unfold ptr aW fe;clear A u C x q t o p B;go_enter Tryz.func84,Tryz.ntmps84;go_upto_region 1 with fail;rw[z.O,<-F.O];clear z
 go_cut [6,7] (λs6 s7 wx=>∃c,s7=.int .i64 c/\(c !=0)=true/\ac a wx)
 case first=>
  go_region_held3 (λw'=>ac a w'/\w'.cell? ⟨L.pb,4,none⟩=some (.pointer (some ⟨L.tb,0,none⟩))/\w'.cell? ⟨l,0,none⟩=some (.int .u64 n.job)/\w'.cell? ⟨l,1,none⟩=some (.string (sB n.M)))
   (first|with_reducible exact d.O _ f.O|with_reducible exact d.O _ (aa.alloc f.O _)|with_reducible exact d.O _ (aa.drew f.O)|with_reducible exact d.O _ m.O|with_reducible exact d.O _ (aa.drew m.O)|with_reducible exact d.O _ (aa.drew oR)|with_reducible exact d.O _ oR|(with_reducible refine d.O _ ?_;with_reducible refine aa.setCell ?_ (Or.inr (lR)) _;repeat (first|with_reducible exact f.O|with_reducible refine aa.setCell ?_ (Or.inr (lR)) _))|(trace_state;fail))
   (first
    |(go_at_call 136;refine(y.O a.drew (aa.drew oR)).mono ?_;rintro k b ⟨c,rfl,v,j⟩;have f:Hd (ac a b):=hD (aa.trans (aa.drew oR) j);clear j)
    |(go_at_call 136;refine(y.O _ (aa.drew m.O)).mono ?_;rintro k b ⟨c,rfl,v,j⟩;have f:Hd (ac a b):=hD (aa.trans (aa.drew m.O) j);have e:=hD (j.J E.O nF);have Q:b.cell? ⟨a.heap.size,0,none⟩=some (.string ⟨#[]⟩):=e.O.I 0;have R:b.cell? ⟨a.heap.size,1,none⟩=some (.int .i64 0):=e.O.I 1;have V:b.cell? ⟨a.heap.size,2,none⟩=some (.slice none 0 0):=e.O.I 2;have Y:b.cell? ⟨a.heap.size,3,none⟩=some (.int .i64 0):=e.O.I 3;have Z:b.frozen? ⟨a.heap.size,0,none⟩=false:=e.O.fz 0;have a0:b.frozen? ⟨a.heap.size,1,none⟩=false:=e.O.fz 1;have a1:b.frozen? ⟨a.heap.size,2,none⟩=false:=e.O.fz 2;have a2:b.frozen? ⟨a.heap.size,3,none⟩=false:=e.O.fz 3;clear j)
    |fail)
  all_goals (
   go_wp2_with fail;go_meet
   case rel=>exact⟨c,rfl,v,by first|exact f.O.alloc _|(repeat (first|exact f.O|refine aa.setCell ?_ (Or.inr (lR)) _))⟩)
 case rest=>
  obtain⟨c,rfl,v,D⟩:=hcut;have H:=hD D;clear D;go_wp2_with fail;refine bodyPost_ret (results_none rfl _ _ _) rfl ?_;exact⟨rfl,G.O.trans H.O⟩
def Fa(w W1 wx:World)(tag:Nat->Nat)(L:cN)(rows:Nm->Option aG)(cnt:Nat)(t:aj)(tp:ByteArray)(fn:Int)(al:Nat)(tf:Int)(s6 s7:Value):Prop:=
 ∃g6 A2 c2,s7=.int .i64 0/\s6=.pointer (some ⟨g6,0,none⟩)/\w.heap.size<=g6/\ae wx g6 30 #[.string tp,.int .i64 fn,.slice A2 al c2,.int .i64 tf]/\aJ wx (λb=>tag b=0) A2 t.args/\bS wx (λb=>tag b=2) L.tb L.mb L.most rows cnt L.rp/\aa (λb=>tag b=2) W1 wx
theorem gM(c:∀b,tag b≠0->b<w.heap.size){b:Nat}(d:w.heap.size<=b):tag b=0:=Decidable.byContradiction λa=>absurd (c b a) (zC.2 d)
theorem xc(a5:aY w tag L s){k tp:Nat}{th:Th}(ej:L.tps[k]?=some tp)(e9:s.ths[k]?=some th)(d4:dE n){r:aG}(bv:s.T.rw n=some r)(bx:r.sa=1\/r.sa=4){p:List ah}(d6:s.progs n.job=some p)(e4:mY p)(e5:cC p r.tk)
 (e7:r.sa=1->s.T.fm n=none) (e8:r.sa=4->s.T.fm n≠none) (ei:s.T.fm n=none->∀(k:Nat) (th:Th),s.ths[k]?=some th->th.run=true->th.cur≠n) (g5:L.fn<=1000000000):
 Calls Tryz.prog 84 #[ptr L.pb,ptr tp,aW n] w λa w'=>a=.returned (.tuple #[])/\cP w w' tag L s (dX s k n) 1:=by
 have eg:s.prog n.job=p:=by unfold PS.prog;rw[d6];rfl
 have e6:dX s k n= {s with T:=gV (s.prog n.job) s.T n r,ths:=s.ths.set k {s.th k with cur:=n,run:=true}}:=by
  unfold dX;rw[bv];simp only;rw[yf bx]
 obtain⟨c,br⟩:=eX (w.alloc (.cells #[.int .u64 n.job,.string (sB n.M)] 58));have b4:ac w c:=by rw[br];exact(aa.refl _ w).alloc _
 obtain⟨u,bt⟩:=eX w.heap.size;have bn:ae c u 58 #[.int .u64 n.job,.string (sB n.M)]:=by rw[br,bt];exact bN
 have H:=a5.U b4;have b2:=(H.p1 (by decide)).2;have dp:=hD br.symm;have c5:=hD bt;have c8:=hD d4;have eq:=hD H;have ex:=hD bn;have f3:=hD b4;have bk:Hd (ac c (c.alloc (.cells #[.string ⟨#[]⟩,.int .i64 0,.slice none 0 0,.int .i64 0] 30))):=hD (oR.alloc _);have es:Hd (ae (c.alloc (.cells #[.string ⟨#[]⟩,.int .i64 0,.slice none 0 0,.int .i64 0] 30)) c.heap.size 30 #[.string ⟨#[]⟩,.int .i64 0,.slice none 0 0,.int .i64 0]):=hD (ae.new c _ _);obtain⟨kp,d2⟩:=eX (sB r.tk.M);obtain⟨a8,d1⟩:=eX r.tk.fn;obtain⟨a7,d0⟩:=eX r.tk.args.length;obtain⟨a9,d3⟩:=eX ((r.tk.fuel:Int):Int);have bf:=hD (aI d2 (aI d1 (aI d0 d3)));obtain⟨rows,d8⟩:=eX (ax s.T.rw n (some {r with sa:=2}));have dn:=hD d8
 have c3:Hd (∀W,ac c W->Calls Tryz.prog 136 #[.pointer (some ⟨L.tb,0,none⟩),.agg #[.int .u64 n.job,.string (sB n.M)]] W λa w'=>∃ba c',a=.returned (.tuple #[.agg #[.string kp,.int .i64 a8,.slice ba a7 c',.int .i64 a9],.int .i64 0])/\aJ w' (λb=>tag b=0) ba r.tk.args/\bS w' (λb=>tag b=2) L.tb L.mb L.most rows s.T.ks.length L.rp/\aa (λb=>tag b=2) W w'):=hD λW j=>by
  refine(Ac ((H.U j).tagB (by decide)) ((H.U j).p2 (by decide)) d4 bv bx).mono ?_;rintro a w' ⟨ba,c',rfl,fq,a6,fr⟩;refine⟨ba,c',by rw[d2,d1,d0,d3];rfl,fq.mo λb A=>gM a5.tlt (lT (b4.trans j).size A.1),by rw[d8];exact a6,fr⟩
 have m:Hd (∀W,aa (λb=>tag b=2) c W->aa (λb=>tag b=2) c W/\W.cell? ⟨L.pb,4,none⟩=some (.pointer (some ⟨L.tb,0,none⟩))/\W.cell? ⟨u,0,none⟩=some (.int .u64 n.job)/\W.cell? ⟨u,1,none⟩=some (.string (sB n.M))):=hD λW j=>by
  have dw:¬tag L.pb=2:=λa=>by have:=(a5.p1 (by decide)).1;rw[a] at this;exact absurd this (by decide)
  have ci:¬tag u=2:=λa=>by have:=gM a5.tlt (b:=u) (by rw[bt];exact lR);rw[a] at this;exact absurd this (by decide)
  exact⟨j,(j.J b2 dw).I 4,(j.J bn ci).I 0,(j.J bn ci).I 1⟩
 have cr:=m.O c oR;have c9:Hd (∀W,ac c W->aa (λb=>tag b=2) c W):=hD λW j=>j.mono λ_ a=>a.elim
 have cb:Hd (∀b,w.heap.size<=b->¬tag b=2):=hD λb A a=>by have:=gM a5.tlt A;rw[a] at this;exact absurd this (by decide)
 have f1:=hD a5;have l:=hD (aI ej (aI e9 (aI bv bx)));have y:=hD (aI d6 (aI eg (aI e4 e5)));have c4:=hD (aI e7 (aI e8 ei));have bc:=hD e6;have bm:Hd (w.heap.size<=c.heap.size):=hD b4.size;unfold ptr aW fe;clear a5 d4 bv bx b4 br bt bn H b2 d2 d1 d0 d3 d8 ej e9 d6 e4 e5 eg e7 e8 ei e6;go_enter Tryz.func84,Tryz.ntmps84;go_upto_region 1 with fail;rw[dp.O,<-c5.O];clear dp
 go_cut [6,7] (λs6 s7 wx=>Fa w c wx tag L rows s.T.ks.length r.tk kp a8 a7 a9 s6 s7)
 case first=>
  go_region_held3 (λw'=>aa (λb=>tag b=2) c w'/\w'.cell? ⟨L.pb,4,none⟩=some (.pointer (some ⟨L.tb,0,none⟩))/\w'.cell? ⟨u,0,none⟩=some (.int .u64 n.job)/\w'.cell? ⟨u,1,none⟩=some (.string (sB n.M)))
   (first|with_reducible exact m.O _ K.O|with_reducible exact m.O _ (aa.alloc K.O _)|with_reducible exact m.O _ (aa.drew K.O)|with_reducible exact m.O _ (c9.O _ bk.O)|with_reducible exact m.O _ (c9.O _ (aa.drew bk.O))|with_reducible exact m.O _ (aa.drew oR)|with_reducible exact m.O _ oR|(with_reducible refine m.O _ ?_;with_reducible refine aa.setCell ?_ (Or.inr (lR)) _;repeat (first|with_reducible exact K.O|with_reducible refine aa.setCell ?_ (Or.inr (lR)) _))|(trace_state;fail))
   (first
    |(go_at_call 136;refine(c3.O c.drew (aa.drew oR)).mono ?_;rintro a e ⟨B,D,rfl,a6,b8,am⟩;have K:Hd (aa (λb=>tag b=2) c e):=hD (aa.trans (aa.drew oR) am);have c6:=hD a6;have cd:=hD b8;clear am a6 b8)
    |(go_at_call 136;refine(c3.O _ (aa.drew bk.O)).mono ?_;rintro a e ⟨B,D,rfl,a6,b8,am⟩;have K:Hd (aa (λb=>tag b=2) c e):=hD (aa.trans (c9.O _ (aa.drew bk.O)) am);have C:=hD (am.J es.O (cb.O _ bm.O));have c6:=hD a6;have cd:=hD b8;have fx:e.cell? ⟨c.heap.size,0,none⟩=some (.string ⟨#[]⟩):=C.O.I 0;have dw:e.cell? ⟨c.heap.size,1,none⟩=some (.int .i64 0):=C.O.I 1;have ci:e.cell? ⟨c.heap.size,2,none⟩=some (.slice none 0 0):=C.O.I 2;have g0:e.cell? ⟨c.heap.size,3,none⟩=some (.int .i64 0):=C.O.I 3;have g1:e.frozen? ⟨c.heap.size,0,none⟩=false:=C.O.fz 0;have g2:e.frozen? ⟨c.heap.size,1,none⟩=false:=C.O.fz 1;have g3:e.frozen? ⟨c.heap.size,2,none⟩=false:=C.O.fz 2;have g4:e.frozen? ⟨c.heap.size,3,none⟩=false:=C.O.fz 3;clear am a6 b8)
    |fail)
  all_goals (
   go_wp2_with fail;go_meet)
  case rel=>
   have dk:=(aa.refl (λ_=>False) e).alloc (.cells #[.string kp,.int .i64 a8,.slice B a7 D,.int .i64 a9] 30);exact⟨e.heap.size,B,D,rfl,rfl,lT bm.O K.O.size,bN,c6.O.kp dk nG,cd.O.kp dk nG,K.O.trans (dk.mono λ_ a=>a.elim)⟩
  case rel=>
   obtain⟨E,F⟩:=set4 C.O rfl (.string kp) (.int .i64 a8) (.slice B a7 D) (.int .i64 a9);exact⟨c.heap.size,B,D,rfl,rfl,bm.O,E,c6.O.by_type F C.O (by decide),cd.O.kp F (λb A a=>cb.O b (by rw[a];exact bm.O) A),K.O.trans' F (λb a=>.inr (by rw[a];exact lR))⟩
 case rest=>
  obtain⟨N,B,D,rfl,rfl,g8,dv,ek,em,G⟩:=hcut;obtain⟨e,fd⟩:=eX wc;subst fd;have bo:aY e tag L {s with T:={s.T with rw:=rows}}:=(eq.O.same G).fill2 (T':={s.T with rw:=rows}) em rfl;have b2:=(bo.p1 (by decide)).2;have cw:=G.J ex.O (cb.O u (by rw[c5.O];exact lR));have ai:=b2.I 9;simp[bJ] at ai;obtain⟨ar,aw⟩:=cw.gE2;obtain⟨g6,fj⟩:=c8.O.key;have Q:=(((bo.p11 (by decide)).2).heap (w':=e.drew) rfl).look ix Tryz.underlying119 (z:=.pointer none) (by kernel_rfl) fj;rw[iP] at Q;change (Instr.lookup 119 (.map (some L.fb)) (.agg #[.int .u64 n.job,.string (sB n.M)]) false).run Tryz.prog e.drew=.ok (((s.T.fm n).map λ_=>ptr (L.fp n)).getD (.pointer none)) e.drew at Q;obtain⟨o,cs⟩:=eX e.drew;have an:ac e o:=by rw[cs];exact oR.drew
  have cm:=bo.U an;have a0:=hD cm;have c2:=hD (an.J cw nF);have er:=hD (an.J dv nF);have f2:=hD (ek.kp an nG);have dq:=hD cs.symm;have dr:Hd (aQ w o tag tag):=hD (((aQ.U f3.O).trans (aQ.same (by decide) G)).trans (aQ.U an));obtain⟨c0,d,av,fv,E,F,R,g,V,Y,fs,ft⟩:=(cm.p15 (by decide)).2.1 k th l.O.2.1;rw[l.O.1] at E
  cases E
  have f5:=hD (aI R (aI g (aI V Y)));have f4:=hD F;clear dv ek em G bo b2 cw cs an cm F R g V Y fs ft cr c3 m
  by_cases b0:r.sa=4
  ·obtain⟨f,P⟩ :∃f,s.T.fm n=some f:=Option.ne_none_iff_exists'.1 (c4.O.2.1 b0)
   rw[P] at Q;have a1:=hD P;change (Instr.lookup 119 (.map (some L.fb)) (.agg #[.int .u64 n.job,.string (sB n.M)]) false).run Tryz.prog e.drew=.ok (.pointer (some ⟨L.fp n,0,none⟩)) e.drew at Q;clear P;go_upto_region 3 with fail
   go_still_tail 6,(by kernel_rfl)
   change wpList _ _ _ _ _ e.drew;rw[dq.O];go_upto_region 7 with fail;clear Q ai ar aw;obtain⟨ar,aw⟩:=c2.O.gE2;obtain⟨c0,d,av,fv,E,F,R,g,V,Y,_⟩:=(a0.O.p15 (by decide)).2.1 k th l.O.2.1;have dd:tp=c0:=yz (l.O.1.symm.trans E);subst dd;have cf:=g.I 3;have cg:=g.I 4;have ch:=g.I 5;simp[dQ] at cf cg ch;have f9:=g.fz 3;have fa:=g.fz 4;have a4:=g.fz 5;have c7:=hD g;have a2:=hD (aI R (aI V Y));have f8:(o.setCell ⟨tp,3,none⟩ (.int .u64 n.job)).cell? ⟨tp,4,none⟩=some (.string (sB th.cur.M)):=by rw[(g.s_ 3 _).I 4];simp[dQ]
   clear E F R g V Y;go_wp2_with fail
   go_end0
   have aE:=((c7.O.s_ 3 (.int .u64 n.job)).s_ 4 (.string (sB n.M))).s_ 5 (.pointer (some ⟨(L.fp n),0,none⟩));rw[vO] at aE;have b5:aa (λb=>b=tp) o (((o.setCell ⟨tp,3,none⟩ (.int .u64 n.job)).setCell ⟨tp,4,none⟩ (.string (sB n.M))).setCell ⟨tp,5,none⟩ (.pointer (some ⟨(L.fp n),0,none⟩))):=((af _ tp 3 _).trans (af _ tp 4 _)).trans (af _ tp 5 _);have cp:=aX.thread (k:=k) (th:=th) (av:=av) {th with cur:=n,run:=true} a0.O l.O.2.1 l.O.1 a2.O.1 b5 aE a2.O.2.1 a2.O.2.2 (λ_=>rfl) (λa=>by cases a)
   have da:tag tp=15:=by
    obtain⟨_,_,_,_,Z,b7,_⟩:=(a0.O.p15 (by decide)).2.1 k th l.O.2.1;rw[show _=tp from yz (Z.symm.trans l.O.1)] at b7;exact b7
   refine⟨rfl,tag,L,?_,dr.O.trans (aQ.same (i:=15) (by decide) (b5.mono λb a=>by rw[a];exact da)),?_⟩
   ·rw[bc.O,PS.th_eq l.O.2.1]
    have:({({s with T:={s.T with rw:=rows}}:PS) with ths:=(({s with T:={s.T with rw:=rows}}:PS)).ths.set k {th with cur:=n,run:=true}}:PS)= {s with T:=gV (s.prog n.job) s.T n r,ths:=s.ths.set k {th with cur:=n,run:=true}}:=by
     unfold gV;rw[a1.O,dn.O]
     first|rfl|(simp only[zU];rw[<-a1.O,jZ])|(simp only[Option.getD_none];rw[y.O.2.1])
    rw[<-this];exact cp
   ·rw[bc.O]
    exact⟨rfl,rfl,rfl,rfl,by omega,by omega,by simp;omega,[],by simp[gV],by simp⟩
  ·have H:r.sa=1:=l.O.2.2.2.resolve_right b0
   have P:=c4.O.1 H;rw[P] at Q;have a1:=hD P;change (Instr.lookup 119 (.map (some L.fb)) (.agg #[.int .u64 n.job,.string (sB n.M)]) false).run Tryz.prog e.drew=.ok (.pointer none) e.drew at Q;go_upto_region 3 with fail
   go_still_tail 6,(by kernel_rfl)
   change wpList _ _ _ _ _ e.drew;rw[dq.O];go_upto_region 5 with fail;clear Q ai ar aw f5 f4;obtain⟨pA,d5⟩ :∃x,x=L.pA n.job:=⟨_,rfl⟩
   obtain⟨pn,d7⟩ :∃x,x=p.length:=⟨_,rfl⟩
   have eb:∀W,ac o W->(Instr.lookup 116 (.map (some L.gb)) (.int .u64 n.job) false).run Tryz.prog W=.ok (.agg #[.slice pA.1 pn pA.2]) W:=λW j=>by
    have:=((a0.O.U j).p8 (by decide)).2.look (t:=116) oI Tryz.underlying116 (z:=.agg #[.slice none 0 0]) (by kernel_rfl) (Maps.keyOf_int_mk Tryz.underlying54 c8.O.1);rw[nh] at this;change _=Result.ok (((s.progs n.job).map λp=>aM p (L.pA n.job).1 (L.pA n.job).2).getD _) W at this;rw[y.O.1,<-d5] at this;rw[this,d7];rfl
   have dm:Hd (∀W,ac o W->Calls Tryz.prog 62 #[.agg #[.slice pA.1 pn pA.2],.agg #[.string kp,.int .i64 a8,.slice B a7 D,.int .i64 a9]] W λa w'=>∃e0 L,a=.returned (.tuple #[.pointer (some ⟨e0,0,none⟩),.int .i64 0])/\aZ w' (bl W w') e0 L p (Fr.begun p r.tk)/\ac W w'):=hD λW j=>by
    have b0:=a0.O.U j;have:=uY p pA.1 B pA.2 D (λb=>tag b=4) (λb=>tag b=0) r.tk W (by rw[d5];exact b0.p4 (by decide) n.job p y.O.1) (b0.tagB (by decide)) y.O.2.2.1.ck y.O.2.2.1.ok y.O.2.2.1.wf (f2.O.kp j nG) y.O.2.2.2;unfold Ch aM bX at this;rw[<-bf.O.1,<-bf.O.2.1,<-bf.O.2.2.1,<-bf.O.2.2.2,<-d7] at this;exact this
   have ec:=(a0.O.p1 (by decide)).2
   have m:Hd (∀W,ac o W->ac o W/\W.cell? ⟨L.pb,5,none⟩=some (.map (some L.gb))/\W.cell? ⟨u,0,none⟩=some (.int .u64 n.job)/\W.cell? ⟨N,0,none⟩=some (.string kp)/\W.cell? ⟨N,1,none⟩=some (.int .i64 a8)/\W.cell? ⟨N,2,none⟩=some (.slice B a7 D)/\W.cell? ⟨N,3,none⟩=some (.int .i64 a9)/\(Instr.lookup 116 (.map (some L.gb)) (.int .u64 n.job) false).run Tryz.prog W=.ok (.agg #[.slice pA.1 pn pA.2]) W):=hD λW j=>by
    have Z:=j.J er.O nF;exact⟨j,(j.J ec nF).I 5,(j.J c2.O nF).I 0,Z.I 0,Z.I 1,Z.I 2,Z.I 3,eb W j⟩
   have cr:=m.O o oR;clear d5 d7 ec eb
   go_region_held3 (λW=>ac o W/\W.cell? ⟨L.pb,5,none⟩=some (.map (some L.gb))/\W.cell? ⟨u,0,none⟩=some (.int .u64 n.job)/\W.cell? ⟨N,0,none⟩=some (.string kp)/\W.cell? ⟨N,1,none⟩=some (.int .i64 a8)/\W.cell? ⟨N,2,none⟩=some (.slice B a7 D)/\W.cell? ⟨N,3,none⟩=some (.int .i64 a9)/\(Instr.lookup 116 (.map (some L.gb)) (.int .u64 n.job) false).run Tryz.prog W=.ok (.agg #[.slice pA.1 pn pA.2]) W)
    (with_reducible first|exact m.O _ (aa.trans (aa.drew oR) ab.O)|exact m.O _ (aa.drew oR)|exact m.O _ oR|fail)
    (first
     |(go_at_call 62;refine(dm.O o.drew (aa.drew oR)).mono ?_;rintro a a3 ⟨q,fl,rfl,dz,el⟩;have ab:=hD el;have a4:=hD dz;clear el dz)
     |fail)
   clear cr m;obtain⟨ad,b1⟩:=eX o.drew;have fw:Hd (o.drew=ad):=hD b1.symm;have ce:Hd (ac o ad):=hD (by rw[b1];exact oR.drew);have bb:=hD (a0.O.U ce.O);have dl:=hD (ce.O.J c2.O nF);have ab:ac ad a3:=by rw[b1];exact ab.O
   have a4:aZ a3 (bl ad a3) q fl p (Fr.begun p r.tk):=by rw[b1];exact a4.O
   clear b1;go_upto_region 6 with fail;obtain⟨ds,cv⟩:=eX a3.drew;have G:ac a3 ds:=by rw[cv];exact oR.drew
   have bp:=bb.O.retag ab (100+q);obtain⟨b9,b3⟩ :∃t,t=cS tag ad a3 (100+q):=⟨_,rfl⟩
   rw[<-b3] at bp;have bq:=bp.U G;obtain⟨g7,ea⟩:=c8.O.key;obtain⟨az,ef,e3,b6⟩:=(bq.p11 (by decide)).2.put (t:=119) (v:=ptr q) ix Tryz.underlying119 ea (by unfold maxLen;omega);have al:=(bq.p11 (by decide)).1;have e2:=bq.same (i:=11) (b6.mono λb a=>by rw[a];exact al);have fo:ad.heap.size<=q:=a4.ff.1;obtain⟨cn,cB⟩:=eX ((if (eE (λbz=>(s.T.fm bz).map λ_=>ptr (L.fp bz)) (aW n)).isSome then L.fn else L.fn+1));have d9:({s with T:={s.T with rw:=rows}}:PS).prog n.job=p:=y.O.2.1
   have e1:=e2.frameNew (n:=n) (q:=q) (cn:=cn) (l':=fl) (f':=Fr.begun p r.tk) a1.O (c4.O.2.2 a1.O) (by
    rw[d9];refine((a4.mo λb A=>?_).kp G nG).kp b6 (λb A a=>?_)
    ·rw[b3];exact fS A
    ·have A:b9 b=100+q:=A
     rw[a,al] at A;omega) (λ_=>by rw[d9];exact pq y.O.2.2.1.ok y.O.2.2.2) (λbz fk a=>by
    obtain⟨f,P⟩:=Option.ne_none_iff_exists'.1 fk;have:=(bb.O.p16 bz f P (by simp)).1.ff;have H:=bb.O.tlt _ (by rw[this];omega);rw[a] at H;omega) ⟨al,by rw[cB];exact e3⟩
   have f7:Hd (aQ w az tag b9):=hD (((((dr.O.trans (aQ.U ce.O)).trans (by rw[b3];exact aQ.retag bb.O.tlt ab (100+q)))).trans (aQ.U G)).trans (aQ.same (i:=11) (by decide) (b6.mono λb a=>by rw[a];exact al)));have c1:=hD e1;have f0:Hd ((cn:Int)<=L.fn+1):=hD (by rw[cB];split<;>omega);have cq:=ab.J dl.O nF
   have db:b9 u=0:=by
    have fb:tag u=0:=gM f1.O.tlt (by rw[c5.O];exact lR);rw[b3];unfold cS;rw[yb (λa=>zC.2 a.1 dl.O.lt)];exact fb
   have eL:=hD (b6.J (G.J cq nF) (λa=>by rw[a,al] at db;exact absurd db (by decide)));have ee:=(bp.p1 (by decide)).2;have ai:=ee.I 9;simp[bJ] at ai;obtain⟨ar,aw⟩:=cq.gE2;have f6:=hD cv.symm;change (Instr.mapUpdate 119 (.map (some L.fb)) (.agg #[.int .u64 n.job,.string (sB n.M)]) (.pointer (some ⟨q,0,none⟩))).run Tryz.prog ds=.ok () az at ef;clear dm a4 ab cv G bp b3 bq ea e3 b6 al e2 fo cB d9 e1 cq db ee
   go_still_tail 6,(by kernel_rfl)
   change wpList _ _ _ _ _ a3.drew;rw[f6.O];go_upto_region 7 with fail;clear ai ar aw ef;obtain⟨ar,aw⟩:=eL.O.gE2;obtain⟨c0,d,av,fv,E,F,R,g,V,Y,_⟩:=(c1.O.p15 (by decide)).2.1 k th l.O.2.1;have dd:tp=c0:=yz (l.O.1.symm.trans E);subst dd;have cf:=g.I 3;have cg:=g.I 4;have ch:=g.I 5;simp[dQ] at cf cg ch;have f9:=g.fz 3;have fa:=g.fz 4;have a4:=g.fz 5;have c7:=hD g;have a2:=hD (aI R (aI V Y));have f8:(az.setCell ⟨tp,3,none⟩ (.int .u64 n.job)).cell? ⟨tp,4,none⟩=some (.string (sB th.cur.M)):=by rw[(g.s_ 3 _).I 4];simp[dQ]
   clear E F R g V Y;go_wp2_with fail
   go_end0
   have aE:=((c7.O.s_ 3 (.int .u64 n.job)).s_ 4 (.string (sB n.M))).s_ 5 (.pointer (some ⟨q,0,none⟩));rw[vO] at aE;have b5:aa (λb=>b=tp) az (((az.setCell ⟨tp,3,none⟩ (.int .u64 n.job)).setCell ⟨tp,4,none⟩ (.string (sB n.M))).setCell ⟨tp,5,none⟩ (.pointer (some ⟨q,0,none⟩))):=((af _ tp 3 _).trans (af _ tp 4 _)).trans (af _ tp 5 _);have cp:=aX.thread (k:=k) (th:=th) (av:=av) {th with cur:=n,run:=true} c1.O l.O.2.1 l.O.1 a2.O.1 b5 aE a2.O.2.1 a2.O.2.2 (λ_=>(by show _=ptr (ax L.fp n q n);rw[ay];rfl)) (λa=>by cases a)
   have da:b9 tp=15:=by
    obtain⟨_,_,_,_,Z,b7,_⟩:=(c1.O.p15 (by decide)).2.1 k th l.O.2.1;rw[show _=tp from yz (Z.symm.trans l.O.1)] at b7;exact b7
   refine⟨rfl,b9,({L with fp:=ax L.fp n q,fl:=ax L.fl n fl,fn:=cn}:cN),?_,f7.O.trans (aQ.same (i:=15) (by decide) (b5.mono λb a=>by rw[a];exact da)),?_⟩
   ·rw[bc.O,PS.th_eq l.O.2.1]
    have:({({s with T:={{s.T with rw:=rows} with fm:=ax s.T.fm n (some (Fr.begun p r.tk))}}:PS) with ths:=(({s with T:={{s.T with rw:=rows} with fm:=ax s.T.fm n (some (Fr.begun p r.tk))}}:PS)).ths.set k {th with cur:=n,run:=true}}:PS)= {s with T:=gV (s.prog n.job) s.T n r,ths:=s.ths.set k {th with cur:=n,run:=true}}:=by
     unfold gV;rw[a1.O,dn.O]
     first|rfl|(simp only;rw[<-a1.O,jZ])|(simp only[Option.getD_none];rw[y.O.2.1])
    rw[<-this];exact cp
   ·rw[bc.O]
    exact⟨rfl,rfl,rfl,rfl,by simp;omega,f0.O,by simp;omega,[],by simp[gV],by simp⟩
end
end
end Go.Proofs.YtmdocplknceilaaGreat
