import Derived.Test.YtmdocplknceilaaGreatSWAL
import Derived.Test.YtmdocplknceilaaGreatSWAW
set_option linter.all false
set_option maxRecDepth 100000
set_option maxHeartbeats 4000000
namespace Go.Proofs.YtmdocplknceilaaGreat
section
open Go.RowKit Go.Maps
def ptr(b:Nat):Value:=.pointer (some ⟨b,0,none⟩)
def gI(kd:IntKind)(f:Int->Option Value):Value->Option Value
 | .int k x=>if k=kd then f x else none
 |_=>none
theorem lP(kd:IntKind)(f:Int->Option Value)(x:Int):gI kd f (.int kd x)=f x:=by simp[gI]
theorem vX(kd:IntKind)(f:Int->Option Value)(x:Int)(v:Option Value):gR (gI kd f) (.int kd x) v=gI kd (λy=>if y=x then v else f y):=by
 funext key
 by_cases a:key=.int kd x
 ·subst a
  rw[jT,lP,yf rfl]
 ·rw[ju _ _ a]
  unfold gI;split
  ·rename_i k y
   split
   ·rename_i c
    subst c;show f y=if y=x then v else f y
    rw[yb (λb=>a (by rw[b]))]
   ·rfl
  ·rfl
theorem rV:Keyed Tryz.prog 2:=int_keyed Tryz.underlying2
theorem mI:Keyed Tryz.prog 54:=int_keyed Tryz.underlying54
def pP(w:World)(F:Nat->Prop)(v:Value)(q:List Nm):Prop:=
 (v=.slice none 0 0/\q= [])\/∃g o c cur,v=.slice (some ⟨g,o,none⟩) q.length c/\F g/\ae w g 58 cur/\q.length<=c/\o+c*2<=cur.size/\c<=maxLen/\
  ∀(i:Nat) (n:Nm),q[i]?=some n->cur[o+i*2]?=some (.int .u64 n.job)/\cur[o+i*2+1]?=some (.string (sB n.M))
def fy(x:Nm×Nat×aO):List Value:=[.int .u64 x.1.job,.string (sB x.1.M),.int .i64 (x.2.1:Int),.int .i64 x.2.2.v,.int .i64 x.2.2.e]
structure cj where
 pb:Nat
 thr:Int
 log:Int
 most:Int
 hv:Value
 tps:List Nat
 tb:Nat
 mb:Nat
 rp:Nm->Nat
 gb:Nat
 pA:Int->Option Addr×Nat
 pn:Nat
 qv:Value
 nb:Nat
 mm:Nat
 fb:Nat
 fp:Nm->Nat
 fl:Nm->gl
 fn:Nat
 kb:Nat
 kn:Nat
 ab:Nat
 an:Nat
 ob:Nat
 on:Nat
 dv:Value
 dn:List (Nm×Nat×aO)
 m:Nat
 n:Int
 v:Value
 dp:List Nat
 ps:List (List Nat)
def bi(L:cj):Array Value:=
 #[.int .i64 L.thr,.int .i64 L.log,.int .i64 L.most,L.hv,ptr L.tb,.map (some L.gb),L.qv,.map (some L.nb),.map (some L.mm),.map (some L.fb),.map (some L.kb),.map (some L.ab),.map (some L.ob),L.dv]
def dj(av:Value)(kind:Nat)(d:Nat)(cur:Nm)(fv:Value):Array Value:=#[av,.int .i64 (kind:Int),ptr d,.int .u64 cur.job,.string (sB cur.M),fv]
def vw(w:World)(tag:Nat->Nat)(L:cj)(k:Nat)(th:Th):Prop:=
 ∃tp d av fv,L.tps[k]?=some tp/\tag tp=15/\L.dp[k]?=some d/\ae w tp 131 (dj av th.kn d th.cur fv)/\(th.act=none->av=.pointer none)/\
  (∀j i,th.act=some (j,i)->∃pl p,L.ps[j]?=some pl/\pl[i]?=some p/\av=ptr p)/\(th.run=true->fv=ptr (L.fp th.cur))/\(th.run=false->fv=.pointer none)
noncomputable def gY(nms:List Nm)(n:Nm):Option Value:=open Classical in if h:∃v:Nat,nms[v]?=some n then some (.int .i64 ((Classical.choose h:Nat):Int)) else none
def gi(nms:List Nm)(v:Int):Option Value:=if v<0 then none else(nms[v.toNat]?).map aP
structure aQ(X:List Nat)(w:World)(tag:Nat->Nat)(L:cj)(s:PS):Prop where
 tlt:∀b,tag b≠0->b<w.heap.size
 p1:1 ∉ X->tag L.pb=1/\ae w L.pb 123 (bi L)
 p2:2 ∉ X->bD w (λb=>tag b=2) L.tb L.mb L.most s.T.rw s.T.ks.length L.rp
 p3:3 ∉ X->DW w (λb=>tag b=3) L.m L.n L.v s.C s.ds L.dp L.ps
 p4:4 ∉ X->∀j p,s.progs j=some p->cy w (λb=>tag b=4) (L.pA j).1 p
 p5:5 ∉ X->(∀b,L.hv.ownBlock=some b->tag b=5)/\w.ownsRow 0 124 1 L.hv L.tps.length (L.tps.map ptr)
 p6:6 ∉ X->pP w (λb=>tag b=6) L.qv s.queue/\∀n∈s.queue,cR n
 p7:7 ∉ X->(∀b,L.dv.ownBlock=some b->tag b=7)/\w.ownsRow 0 69 5 L.dv L.dn.length (L.dn.flatMap fy)
 p8:8 ∉ X->tag L.gb=8/\aL Tryz.prog w 54 L.gb (gI .u64 λj=>(s.progs j).map λp=>aS p (L.pA j).1 (L.pA j).2) L.pn
 p9:9 ∉ X->tag L.nb=9/\aL Tryz.prog w 58 L.nb (dP (gY s.nms)) s.nms.length
 p10:10 ∉ X->tag L.mm=10/\aL Tryz.prog w 2 L.mm (gI .i64 (gi s.nms)) s.nms.length/\∀n∈s.nms,cR n
 p11:11 ∉ X->tag L.fb=11/\aL Tryz.prog w 58 L.fb (dP λn=>(s.T.fm n).map λ_=>ptr (L.fp n)) L.fn
 p12:12 ∉ X->tag L.kb=12/\aL Tryz.prog w 58 L.kb (dP λn=>(s.known n).map eT) L.kn
 p13:13 ∉ X->tag L.ab=13/\aL Tryz.prog w 58 L.ab (dP λn=>if s.away n=true then some (.int .i64 1) else none) L.an
 p14:14 ∉ X->tag L.ob=14/\aL Tryz.prog w 58 L.ob (dP λn=>(s.roots n).map (Value.int .i64)) L.on
 p15:15 ∉ X->L.tps.length=s.ths.length/\(∀(k:Nat) (th:Th),s.ths[k]?=some th->vw w tag L k th)/\∀(i j tp:Nat),L.tps[i]?=some tp->L.tps[j]?=some tp->i=j
 p16:∀n f,s.T.fm n=some f->100+L.fp n ∉ X->aT w (λb=>tag b=100+L.fp n) (L.fp n) (L.fl n) (s.prog n.job) f/\(f.result=none->fN (s.prog n.job) f)
 p17:∀n m,s.T.fm n≠none->s.T.fm m≠none->L.fp n=L.fp m->n=m
abbrev aR:=aQ []
section
variable {w w':World}{tag tag':Nat->Nat}{L L':cj}{s s':PS}{X:List Nat}{S:Nat->Prop}{i:Nat}
theorem pP.kp{F d:Nat->Prop}{v:Value}{q:List Nm}(a:pP w F v q)(p:aa S w w')(m:∀b,F b->¬S b)(l:∀b,F b->d b):pP w' d v q:=by
 rcases a with a|⟨g,o,c,cur,f,e,j,k⟩
 ·exact .inl a
 ·exact .inr ⟨g,o,c,cur,f,l _ e,p.J j (m _ e),k⟩
theorem aQ.keepL{Y:List Nat}(e:aQ X w tag L s)(q:aa S w w')(G:∀b,S b->tag b∈Y)(R:∀b,tag b≠0->tag' b=tag b)(N:∀b,tag' b≠0->b<w'.heap.size):aQ (Y++X) w' tag' L s:=by
 have o:∀j,j ∉ Y++X->∀b,tag b=j->¬S b:=λj a b t Q=>a (by rw[<-t];exact List.mem_append_left _ (G b Q))
 have l:∀j,j ∉ Y++X->j ∉ X:=λj a B=>a (List.mem_append_right _ B)
 have m:∀j,j≠0->∀b,tag b=j->tag' b=j:=λj A b t=>by rw[R b (by rw[t];exact A)];exact t
 have y:∀{j:Nat} {k:TypeId} {b:Nat} {g:Value->Option Value} {c:Nat},j≠0->j ∉ Y++X->(j ∉ X->tag b=j/\aL Tryz.prog w k b g c)->tag' b=j/\aL Tryz.prog w' k b g c:=λA a x=>⟨m _ A _ (x (l _ a)).1,(x (l _ a)).2.only q (o _ a _ (x (l _ a)).1)⟩
 have D:∀{j:Nat} {B:TypeId} {z n:Nat} {v:Value} {F:List Value},j≠0->j ∉ Y++X->(j ∉ X->(∀b,v.ownBlock=some b->tag b=j)/\w.ownsRow 0 B z v n F)->(∀b,v.ownBlock=some b->tag' b=j)/\w'.ownsRow 0 B z v n F:=λA a x=>
  ⟨λb t=>m _ A _ ((x (l _ a)).1 b t),q.owns (x (l _ a)).2 (λb t=>o _ a _ ((x (l _ a)).1 b t))⟩
 refine⟨N,λa=>?_,λa=>?_,λa=>?_,λa j p P=>?_,λa=>D (by decide) a e.p5,λa=>?_,λa=>D (by decide) a e.p7,λa=>y (by decide) a e.p8,λa=>y (by decide) a e.p9,λa=>by
  obtain⟨r,u,C⟩:=e.p10 (l _ a);exact⟨m _ (by decide) _ r,u.only q (o _ a _ r),C⟩,
  λa=>y (by decide) a e.p11,λa=>y (by decide) a e.p12,λa=>y (by decide) a e.p13,λa=>y (by decide) a e.p14,λa=>?_,λn f H a=>?_,e.p17⟩
 ·obtain⟨r,u⟩:=e.p1 (l _ a)
  exact⟨m _ (by decide) _ r,q.J u (o _ a _ r)⟩
 ·exact((e.p2 (l _ a)).kp q (o _ a)).mo (m _ (by decide))
 ·exact((e.p3 (l _ a)).kp q (o _ a)).mo (m _ (by decide))
 ·exact((e.p4 (l _ a) j p P).kp q (o _ a)).mo (m _ (by decide))
 ·exact⟨(e.p6 (l _ a)).1.kp q (o _ a) (m _ (by decide)),(e.p6 (l _ a)).2⟩
 ·obtain⟨r,u,C⟩:=e.p15 (l _ a)
  refine⟨r,λk th K=>?_,C⟩;obtain⟨tp,d,av,fv,T,E,V,W,Z⟩:=u k th K;exact⟨tp,d,av,fv,T,m _ (by decide) _ E,V,q.J W (o _ a _ E),Z⟩
 ·obtain⟨r,u⟩:=e.p16 n f H (l _ a)
  exact⟨(r.kp q (o _ a)).mo (m _ (by omega)),u⟩
theorem aQ.kp(a:aQ X w tag L s)(f:aa S w w')(c:∀b,S b->tag b=i)(g:∀b,tag b≠0->tag' b=tag b)(e:∀b,tag' b≠0->b<w'.heap.size):aQ (i :: X) w' tag' L s:=
 a.keepL (Y:=[i]) f (λb d=>by rw[c b d];exact yw.2 rfl) g e
theorem aQ.mono{Y:List Nat}(c:aQ X w tag L s)(d:∀j,j≠0->j∈X->j∈Y):aQ Y w tag L s:=
 ⟨c.tlt,
  λb=>c.p1 λa=>b (d 1 (by decide) a),
  λb=>c.p2 λa=>b (d 2 (by decide) a),
  λb=>c.p3 λa=>b (d 3 (by decide) a),
  λb=>c.p4 λa=>b (d 4 (by decide) a),
  λb=>c.p5 λa=>b (d 5 (by decide) a),
  λb=>c.p6 λa=>b (d 6 (by decide) a),
  λb=>c.p7 λa=>b (d 7 (by decide) a),
  λb=>c.p8 λa=>b (d 8 (by decide) a),
  λb=>c.p9 λa=>b (d 9 (by decide) a),
  λb=>c.p10 λa=>b (d 10 (by decide) a),
  λb=>c.p11 λa=>b (d 11 (by decide) a),
  λb=>c.p12 λa=>b (d 12 (by decide) a),
  λb=>c.p13 λa=>b (d 13 (by decide) a),
  λb=>c.p14 λa=>b (d 14 (by decide) a),
  λb=>c.p15 λa=>b (d 15 (by decide) a),
  λn f e b=>c.p16 n f e λa=>b (d _ (by omega) a),
  c.p17⟩
def ct(tag:Nat->Nat)(w w':World)(i:Nat)(b:Nat):Nat:=if w.heap.size<=b/\b<w'.heap.size then i else tag b
theorem bu(a:∀b,tag b≠0->b<w.heap.size)(b:Nat)(c:tag b≠0):ct tag w w' i b=tag b:=by
 unfold ct;rw[yb (λd=>by have:=a b c;omega)]
theorem fe{b:Nat}(a:w.heap.size<=b/\b<w'.heap.size):ct tag w w' i b=i:=by
 unfold ct;rw[yf a]
theorem qm(d:∀b,tag b≠0->b<w.heap.size)(e:w.heap.size<=w'.heap.size)(b:Nat)(a:ct tag w w' i b≠0):b<w'.heap.size:=by
 unfold ct at a;split at a
 ·rename_i c;exact c.2
 ·exact lL (d b a) e
theorem jH(c:∀b,tag b≠0->b<w.heap.size)(e:i≠0)(b:Nat)(d:tag b=i\/w.heap.size<=b/\b<w'.heap.size):ct tag w w' i b=i:=by
 rcases d with a|a
 ·rw[bu c b (by rw[a];exact e)];exact a
 ·exact fe a
theorem jI(b:Nat)(a:ct tag w w' i b≠0):tag b≠0\/w.heap.size<=b:=by
 unfold ct at a;split at a
 ·rename_i c;exact .inr c.1
 ·exact .inl a
theorem aQ.part(a:aQ X w tag L s)(c:aa (λb=>tag b=i) w w'):aQ (i :: X) w' (ct tag w w' i) L s:=
 a.kp c (λb d=>d) (bu a.tlt) (qm a.tlt c.size)
structure aK(w w':World)(tag tag':Nat->Nat):Prop where
 only:aa (λb=>tag b≠0) w w'
 old:∀b,tag b≠0->tag' b=tag b
 new:∀b,tag' b≠0->tag b≠0\/w.heap.size<=b
theorem aK.trans{f:World}{e:Nat->Nat}(a:aK w w' tag tag')(k:aK w' f tag' e):aK w f tag e:=
 ⟨a.only.trans' k.only a.new,λb c=>(k.old b (by rw[a.old b c];exact c)).trans (a.old b c),λb c=>by
  rcases k.new b c with d|d
  ·exact a.new b d
  ·exact .inr (lT a.only.size d)⟩
theorem aK.part(c:∀b,tag b≠0->b<w.heap.size)(d:i≠0)(e:aa (λb=>tag b=i) w w'):aK w w' tag (ct tag w w' i):=
 ⟨e.mono λb a=>by rw[a];exact d,bu c,jI⟩
theorem aK.U(d:ac w w'):aK w w' tag tag:=⟨d.mono λ_ a=>a.elim,λ_ _=>rfl,λb c=>.inl c⟩
theorem aQ.U(c:aQ X w tag L s)(d:ac w w'):aQ X w' tag L s:=
 (c.kp (i:=0) d (λ_ a=>a.elim) (λ_ _=>rfl) (λb f=>lL (c.tlt b f) d.size)).mono λj e g=>by
  rcases yG.1 g with a|a
  ·exact absurd a e
  ·exact a
end
theorem iU{j q:Nat}(a:j<100):j ∉ [100+q]:=by simp;omega
theorem Ea{q r:Nat}(a:q≠r):100+q ∉ [100+r]:=by simp;omega
theorem qb{q j:Nat}(a:j<100):100+q ∉ [j]:=by simp;omega
section
variable {w w':World}{tag tag':Nat->Nat}{L L':cj}{s s':PS}{X:List Nat}{S:Nat->Prop}{i:Nat}{n:Nm}
theorem aQ.fill2{T':TS}{rp':Nm->Nat}(a:aQ [2] w tag L s)(g:bD w (λb=>tag b=2) L.tb L.mb L.most T'.rw T'.ks.length rp')(c:T'.fm=s.T.fm):aR w tag {L with rp:=rp'} {s with T:=T'}:=
 ⟨a.tlt,λ_=>a.p1 (by decide),λ_=>g,λ_=>a.p3 (by decide),λ_ j p l=>a.p4 (by decide) j p l,λ_=>a.p5 (by decide),λ_=>a.p6 (by decide),λ_=>a.p7 (by decide),λ_=>a.p8 (by decide),λ_=>a.p9 (by decide),λ_=>a.p10 (by decide),λ_=>by show _/\aL _ _ _ _ (dP λn=>(T'.fm n).map _) _;rw[c];exact a.p11 (by decide),λ_=>a.p12 (by decide),λ_=>a.p13 (by decide),λ_=>a.p14 (by decide),λ_=>a.p15 (by decide),λn f k _=>a.p16 n f (by rw[<-c];exact k) (qb (by decide)),λn m d e=>a.p17 n m (by rw[<-c];exact d) (by rw[<-c];exact e)⟩
def ib(ps ps':List (List Nat)):Prop:=∀(j i:Nat) (pl:List Nat) (p:Nat),ps[j]?=some pl->pl[i]?=some p->∃pl',ps'[j]?=some pl'/\pl'[i]?=some p
theorem ib.refl(ps:List (List Nat)):ib ps ps:=λj i pl p a b=>⟨pl,a,b⟩
theorem ib.snoc{ps:List (List Nat)}{j:Nat}{pl:List Nat}(d:ps[j]?=some pl)(q:Nat):ib ps (ps.set j (pl++ [q])):=by
 intro k i e p a b
 by_cases c:k=j
 ·subst c
  rw[d] at a
  cases a
  exact⟨pl++ [q],bg (gS d).1,by rw[yi (gS b).1];exact b⟩
 ·exact⟨e,by rw[cV c];exact a,b⟩
theorem vw.ps{k:Nat}{th:Th}{ps':List (List Nat)}{n':Int}{A:Value}(b:vw w tag L k th)(c:ib L.ps ps'):vw w tag {L with n:=n',v:=A,ps:=ps'} k th:=by
 obtain⟨tp,d,av,fv,o,q,r,t,u,x,y⟩:=b;refine⟨tp,d,av,fv,o,q,r,t,u,λj i a=>?_,y⟩;obtain⟨pl,p,e,f,g⟩:=x j i a;obtain⟨z,l,m⟩:=c j i pl p e f;exact⟨z,p,l,m,g⟩
theorem aQ.fill3{C':List Int}{d:List aM}{n':Int}{e:Value}{ps':List (List Nat)}(a:aQ [3] w tag L s)(g:DW w (λb=>tag b=3) L.m n' e C' d L.dp ps')(c:ib L.ps ps'):aR w tag {L with n:=n',v:=e,ps:=ps'} {s with C:=C',ds:=d}:=
 ⟨a.tlt,λ_=>a.p1 (by decide),λ_=>a.p2 (by decide),λ_=>g,λ_ j p c=>a.p4 (by decide) j p c,λ_=>a.p5 (by decide),λ_=>a.p6 (by decide),λ_=>a.p7 (by decide),λ_=>a.p8 (by decide),λ_=>a.p9 (by decide),λ_=>a.p10 (by decide),λ_=>a.p11 (by decide),λ_=>a.p12 (by decide),λ_=>a.p13 (by decide),λ_=>a.p14 (by decide),λ_=>⟨(a.p15 (by decide)).1,λk th o=>((a.p15 (by decide)).2.1 k th o).ps c,(a.p15 (by decide)).2.2⟩,λn f l _=>a.p16 n f l (qb (by decide)),a.p17⟩
theorem aQ.thread{k tp d:Nat}{th:Th}{av fv:Value}(th':Th)(a:aR w tag L s)(P:s.ths[k]?=some th)(t:L.tps[k]?=some tp)(K:L.dp[k]?=some d)(r:aa (λb=>b=tp) w w')(o:ae w' tp 131 (dj av th'.kn d th'.cur fv))
 (G:th'.act=none->av=.pointer none) (H:∀j i,th'.act=some (j,i)->∃pl p,L.ps[j]?=some pl/\pl[i]?=some p/\av=ptr p) (q:th'.run=true->fv=ptr (L.fp th'.cur)) (N:th'.run=false->fv=.pointer none):
 aR w' tag L {s with ths:=s.ths.set k th'}:=by
 obtain⟨F,x,y⟩:=a.p15 (by decide)
 have A:tag tp=15:=by
  obtain⟨v,_,_,_,c,u,_⟩:=x k th P;rw[t] at c
  cases c
  exact u
 have z:=a.kp (i:=15) (tag':=tag) r (λb e=>by rw[e];exact A) (λ_ _=>rfl) (λb o=>lL (a.tlt b o) r.size);obtain⟨a,rfl⟩ :∃E:aQ [15] w' tag L s,E=z:=⟨z,rfl⟩
 exact⟨a.tlt,λ_=>a.p1 (by decide),λ_=>a.p2 (by decide),λ_=>a.p3 (by decide),λ_ j p R=>a.p4 (by decide) j p R,λ_=>a.p5 (by decide),λ_=>a.p6 (by decide),λ_=>a.p7 (by decide),λ_=>a.p8 (by decide),λ_=>a.p9 (by decide),λ_=>a.p10 (by decide),λ_=>a.p11 (by decide),λ_=>a.p12 (by decide),λ_=>a.p13 (by decide),λ_=>a.p14 (by decide),λ_=>⟨by show L.tps.length=(s.ths.set k th').length;rw[yI];exact F,λl Y Q=>by
  rcases cW Q with⟨g,m⟩|⟨g,m⟩
  ·subst g
   subst m;exact⟨tp,d,av,fv,t,A,K,o,G,H,q,N⟩
  ·obtain⟨v,C,B,D,c,u,T,V,W⟩:=x l Y m
   exact⟨v,C,B,D,c,u,T,r.J V (λe=>g (y l k v c (by rw[e];exact t))),W⟩,y⟩,λn f q _=>a.p16 n f q (qb (by decide)),a.p17⟩
theorem aQ.frame{q:Nat}{l':gl}{f':Fr}(t:q=L.fp n)(c:aQ [100+q] w tag L s)(m:s.T.fm n≠none)(x:aT w (λb=>tag b=100+q) q l' (s.prog n.job) f')(v:f'.result=none->fN (s.prog n.job) f'):
 aR w tag {L with fl:=au L.fl n l'} {s with T:={s.T with fm:=au s.T.fm n (some f')}}:=by
 have e:(λa=>(au s.T.fm n (some f') a).map λ_=>ptr (L.fp a))=λa=>(s.T.fm a).map λ_=>ptr (L.fp a):=by
  funext a
  by_cases d:a=n
  ·subst d
   rw[ax]
   cases l:s.T.fm a with
   |none=>exact absurd l m
   |some f=>rfl
  ·rw[af _ _ d]
 have r:∀a,au s.T.fm n (some f') a≠none->s.T.fm a≠none:=λa e=>by
  by_cases d:a=n
  ·subst d;exact m
  ·rw[af _ _ d] at e;exact e
 exact⟨c.tlt,λ_=>c.p1 (iU (by decide)),λ_=>c.p2 (iU (by decide)),λ_=>c.p3 (iU (by decide)),λ_ j p y=>c.p4 (iU (by decide)) j p y,λ_=>c.p5 (iU (by decide)),λ_=>c.p6 (iU (by decide)),λ_=>c.p7 (iU (by decide)),λ_=>c.p8 (iU (by decide)),λ_=>c.p9 (iU (by decide)),λ_=>c.p10 (iU (by decide)),λ_=>by show _/\aL _ _ _ _ (dP λa=>(au s.T.fm n (some f') a).map λ_=>ptr (L.fp a)) _;rw[e];exact c.p11 (iU (by decide)),λ_=>c.p12 (iU (by decide)),λ_=>c.p13 (iU (by decide)),λ_=>c.p14 (iU (by decide)),λ_=>c.p15 (iU (by decide)),λa f e _=>by
  by_cases d:a=n
  ·subst d
   have g:f=f':=by rw[show({s with T:={s.T with fm:=au s.T.fm a (some f')}}:PS).T.fm a=au s.T.fm a (some f') a from rfl,ax] at e;exact(yz e).symm
   subst g;refine⟨?_,v⟩;show aT w (λb=>tag b=100+L.fp a) (L.fp a) (au L.fl a l' a) _ _;rw[ax,<-t];exact x
  ·have o:s.T.fm a=some f:=by rw[show({s with T:={s.T with fm:=au s.T.fm n (some f')}}:PS).T.fm a=au s.T.fm n (some f') a from rfl,af _ _ d] at e;exact e
   have:=c.p16 a f o (Ea (λg=>d (c.p17 a n (by rw[o];simp) m (by rw[g,t]))));refine⟨?_,this.2⟩;show aT w _ (L.fp a) (au L.fl n l' a) _ _;rw[af _ _ d];exact this.1,λa k l u=>c.p17 a k (r a l) (r k u)⟩
theorem aQ.frameNew{q cn:Nat}{l':gl}{f':Fr}(e:aQ [11] w tag L s)(W:s.T.fm n=none)(F:∀(k:Nat) (th:Th),s.ths[k]?=some th->th.run=true->th.cur≠n)(B:aT w (λb=>tag b=100+q) q l' (s.prog n.job) f')(A:f'.result=none->fN (s.prog n.job) f')
 (y:∀c,s.T.fm c≠none->L.fp c≠q) (D:tag L.fb=11/\aL Tryz.prog w 58 L.fb (gR (dP λc=>(s.T.fm c).map λ_=>ptr (L.fp c)) (aP n) (some (ptr q))) cn):
 aR w tag {L with fp:=au L.fp n q,fl:=au L.fl n l',fn:=cn} {s with T:={s.T with fm:=au s.T.fm n (some f')}}:=by
 have C:(λc=>(au s.T.fm n (some f') c).map λ_=>ptr (au L.fp n q c))=au (λc=>(s.T.fm c).map λ_=>ptr (L.fp c)) n (some (ptr q)):=by
  funext c
  by_cases g:c=n
  ·subst g
   rw[ax,ax,ax];rfl
  ·rw[af _ _ g,af _ _ g,af _ _ g]
 have v:∀c,({s with T:={s.T with fm:=au s.T.fm n (some f')}}:PS).T.fm c=au s.T.fm n (some f') c:=λ_=>rfl
 exact⟨e.tlt,λ_=>e.p1 (by decide),λ_=>e.p2 (by decide),λ_=>e.p3 (by decide),λ_ j p E=>e.p4 (by decide) j p E,λ_=>e.p5 (by decide),λ_=>e.p6 (by decide),λ_=>e.p7 (by decide),λ_=>e.p8 (by decide),λ_=>e.p9 (by decide),λ_=>e.p10 (by decide),λ_=>by show _/\aL _ _ _ _ (dP λc=>(au s.T.fm n (some f') c).map λ_=>ptr (au L.fp n q c)) _;rw[C,<-lv];exact D,λ_=>e.p12 (by decide),λ_=>e.p13 (by decide),λ_=>e.p14 (by decide),λ_=>by
  obtain⟨m,o,z⟩:=e.p15 (by decide);refine⟨m,λk th x=>?_,z⟩;obtain⟨tp,d,av,fv,G,H,K,N,P,Q,R,V⟩:=o k th x;refine⟨tp,d,av,fv,G,H,K,N,P,Q,λg=>?_,V⟩;show fv=ptr (au L.fp n q th.cur);rw[af _ _ (F k th x g)];exact R g,λc f u _=>by
  rw[v] at u;show aT w (λb=>tag b=100+au L.fp n q c) (au L.fp n q c) (au L.fl n l' c) _ _/\_
  by_cases g:c=n
  ·subst g
   rw[ax] at u
   cases u
   rw[ax,ax];exact⟨B,A⟩
  ·rw[af _ _ g] at u
   rw[af _ _ g,af _ _ g];exact e.p16 c f u (qb (by decide)),λa b m o l=>by
  rw[v] at m o;have l:au L.fp n q a=au L.fp n q b:=l
  by_cases r:a=n<;>by_cases t:b=n
  ·rw[r,t]
  ·subst r
   rw[af _ _ t] at o;rw[ax,af _ _ t] at l;exact absurd l.symm (y b o)
  ·subst t
   rw[af _ _ r] at m;rw[ax,af _ _ r] at l;exact absurd l (y a m)
  ·rw[af _ _ r] at m
   rw[af _ _ t] at o;rw[af _ _ r,af _ _ t] at l;exact e.p17 a b m o l⟩
theorem aQ.frameGone{cn:Nat}(d:aQ [11] w tag L s)(g:tag L.fb=11/\aL Tryz.prog w 58 L.fb (gR (dP λc=>(s.T.fm c).map λ_=>ptr (L.fp c)) (aP n) none) cn):
 aR w tag {L with fn:=cn} {s with T:={s.T with fm:=au s.T.fm n none}}:=by
 have r:(λc=>(au s.T.fm n none c).map λ_=>ptr (L.fp c))=au (λc=>(s.T.fm c).map λ_=>ptr (L.fp c)) n none:=by
  funext c
  by_cases e:c=n
  ·subst e
   rw[ax,ax];rfl
  ·rw[af _ _ e,af _ _ e]
 have q:∀c,({s with T:={s.T with fm:=au s.T.fm n none}}:PS).T.fm c=au s.T.fm n none c:=λ_=>rfl
 have l:∀c,au s.T.fm n none c≠none->s.T.fm c≠none:=λc g=>by
  by_cases e:c=n
  ·subst e;rw[ax] at g;exact absurd rfl g
  ·rw[af _ _ e] at g;exact g
 exact⟨d.tlt,λ_=>d.p1 (by decide),λ_=>d.p2 (by decide),λ_=>d.p3 (by decide),λ_ j p t=>d.p4 (by decide) j p t,λ_=>d.p5 (by decide),λ_=>d.p6 (by decide),λ_=>d.p7 (by decide),λ_=>d.p8 (by decide),λ_=>d.p9 (by decide),λ_=>d.p10 (by decide),λ_=>by show _/\aL _ _ _ _ (dP λc=>(au s.T.fm n none c).map λ_=>ptr (L.fp c)) _;rw[r,<-lv];exact g,λ_=>d.p12 (by decide),λ_=>d.p13 (by decide),λ_=>d.p14 (by decide),λ_=>d.p15 (by decide),λc f k _=>by
  rw[q] at k;have e:c≠n:=λe=>by rw[e,ax] at k;cases k
  rw[af _ _ e] at k;exact d.p16 c f k (qb (by decide)),λa b m o=>d.p17 a b (l a m) (l b o)⟩
theorem aQ.fillQ{qv':Value}{q':List Nm}(a:aQ [1,6] w tag L s)(c:tag L.pb=1/\ae w L.pb 123 (bi {L with qv:=qv'}))(d:pP w (λb=>tag b=6) qv' q'/\∀n∈q',cR n):aR w tag {L with qv:=qv'} {s with queue:=q'}:=
 ⟨a.tlt,λ_=>c,λ_=>a.p2 (by decide),λ_=>a.p3 (by decide),λ_ j p g=>a.p4 (by decide) j p g,λ_=>a.p5 (by decide),λ_=>d,λ_=>a.p7 (by decide),λ_=>a.p8 (by decide),λ_=>a.p9 (by decide),λ_=>a.p10 (by decide),λ_=>a.p11 (by decide),λ_=>a.p12 (by decide),λ_=>a.p13 (by decide),λ_=>a.p14 (by decide),λ_=>a.p15 (by decide),λn f e _=>a.p16 n f e (by simp;omega),a.p17⟩
theorem aQ.fillD{dv':Value}{dn':List (Nm×Nat×aO)}(a:aQ [1,7] w tag L s)(c:tag L.pb=1/\ae w L.pb 123 (bi {L with dv:=dv',dn:=dn'}))(d:(∀b,dv'.ownBlock=some b->tag b=7)/\w.ownsRow 0 69 5 dv' dn'.length (dn'.flatMap fy)):aR w tag {L with dv:=dv',dn:=dn'} s:=
 ⟨a.tlt,λ_=>c,λ_=>a.p2 (by decide),λ_=>a.p3 (by decide),λ_ j p g=>a.p4 (by decide) j p g,λ_=>a.p5 (by decide),λ_=>a.p6 (by decide),λ_=>d,λ_=>a.p8 (by decide),λ_=>a.p9 (by decide),λ_=>a.p10 (by decide),λ_=>a.p11 (by decide),λ_=>a.p12 (by decide),λ_=>a.p13 (by decide),λ_=>a.p14 (by decide),λ_=>a.p15 (by decide),λn f e _=>a.p16 n f e (by simp;omega),a.p17⟩
theorem aQ.fillN{nms':List Nm}(a:aQ [9,10] w tag L s)(c:tag L.nb=9/\aL Tryz.prog w 58 L.nb (dP (gY nms')) nms'.length)(b:tag L.mm=10/\aL Tryz.prog w 2 L.mm (gI .i64 (gi nms')) nms'.length/\∀n∈nms',cR n):aR w tag L {s with nms:=nms'}:=
 ⟨a.tlt,λ_=>a.p1 (by decide),λ_=>a.p2 (by decide),λ_=>a.p3 (by decide),λ_ j p e=>a.p4 (by decide) j p e,λ_=>a.p5 (by decide),λ_=>a.p6 (by decide),λ_=>a.p7 (by decide),λ_=>a.p8 (by decide),λ_=>c,λ_=>b,λ_=>a.p11 (by decide),λ_=>a.p12 (by decide),λ_=>a.p13 (by decide),λ_=>a.p14 (by decide),λ_=>a.p15 (by decide),λn f d _=>a.p16 n f d (by simp;omega),a.p17⟩
theorem aQ.fill14{ro':Nm->Option Int}{c:Nat}(a:aQ [14] w tag L s)(b:tag L.ob=14/\aL Tryz.prog w 58 L.ob (dP λn=>(ro' n).map (Value.int .i64)) c):aR w tag {L with on:=c} {s with roots:=ro'}:=
 ⟨a.tlt,λ_=>a.p1 (by decide),λ_=>a.p2 (by decide),λ_=>a.p3 (by decide),λ_ j p e=>a.p4 (by decide) j p e,λ_=>a.p5 (by decide),λ_=>a.p6 (by decide),λ_=>a.p7 (by decide),λ_=>a.p8 (by decide),λ_=>a.p9 (by decide),λ_=>a.p10 (by decide),λ_=>a.p11 (by decide),λ_=>a.p12 (by decide),λ_=>a.p13 (by decide),λ_=>b,λ_=>a.p15 (by decide),λn f d _=>a.p16 n f d (qb (by decide)),a.p17⟩
end
structure LK(L L':cj)(s s':PS)(d:Int):Prop where
 pb:L'.pb=L.pb
 mz:L'.most=L.most
 tp:L'.tps=L.tps
 dp:L'.dp=L.dp
 nn:L'.n<=L.n+d
 fn:(L'.fn:Int)<=L.fn+d
 nm:(s'.nms.length:Int)<=s.nms.length+d
 dn:∃x,s'.T.hist=s.T.hist++x/\L'.dn=L.dn++x
theorem LK.refl(L:cj)(s:PS):LK L L s s 0:=⟨rfl,rfl,rfl,rfl,by omega,by omega,by omega,[],by simp,by simp⟩
theorem LK.trans{L L' b:cj}{s s' e:PS}{d c:Int}(a:LK L L' s s' d)(k:LK L' b s' e c):LK L b s e (d+c):=by
 obtain⟨x,f,g⟩:=a.dn;obtain⟨y,j,l⟩:=k.dn;exact⟨k.pb.trans a.pb,k.mz.trans a.mz,k.tp.trans a.tp,k.dp.trans a.dp,by have:=a.nn;have:=k.nn;omega,by have:=a.fn;have:=k.fn;omega,by have:=a.nm;have:=k.nm;omega,x++y,by rw[j,f,yY],by rw[l,g,yY]⟩
theorem LK.mo{L L':cj}{s s':PS}{d b:Int}(a:LK L L' s s' d)(c:d<=b):LK L L' s s' b:=⟨a.pb,a.mz,a.tp,a.dp,by have:=a.nn;omega,by have:=a.fn;omega,by have:=a.nm;omega,a.dn⟩
def cl(w w':World)(tag:Nat->Nat)(L:cj)(s s':PS)(d:Int):Prop:=∃tag' L',aR w' tag' L' s'/\aK w w' tag tag'/\LK L L' s s' d
structure lH(p:List aj):Prop where
 ok:jw p
 ck:cz p=0
 wf:∀x∈p,kA x
section
variable {w w':World}{tag tag':Nat->Nat}{L L':cj}{s s':PS}{i:Nat}{n:Nm}{X:List Nat}
theorem aQ.same(c:aQ X w tag L s)(d:aa (λb=>tag b=i) w w'):aQ (i :: X) w' tag L s:=
 c.kp d (λb a=>a) (λ_ _=>rfl) (λb a=>lL (c.tlt b a) d.size)
theorem aK.same(d:i≠0)(e:aa (λb=>tag b=i) w w'):aK w w' tag tag:=⟨e.mono λb a=>by rw[a];exact d,λ_ _=>rfl,λb c=>.inl c⟩
theorem aQ.tagB(a:aQ X w tag L s)(d:i≠0):∀b,tag b=i->b<w.heap.size:=λb c=>a.tlt b (by rw[c];exact d)
theorem aQ.retag(b:aQ X w tag L s)(c:ac w w')(i:Nat):aQ X w' (ct tag w w' i) L s:=
 (b.kp (i:=0) c (λ_ a=>a.elim) (bu b.tlt) (qm b.tlt c.size)).mono λj d e=>by
  rcases yG.1 e with a|a
  ·exact absurd a d
  ·exact a
theorem aK.retag(c:∀b,tag b≠0->b<w.heap.size)(d:ac w w')(i:Nat):aK w w' tag (ct tag w w' i):=⟨d.mono λ_ a=>a.elim,bu c,jI⟩
theorem tU(av:Value)(kd d:Nat)(cur n:Nm)(fv a:Value):(((dj av kd d cur fv).setIfInBounds 3 (.int .u64 n.job)).setIfInBounds 4 (.string (sB n.M))).setIfInBounds 5 a=dj av kd d n a:=by simp[dj]
theorem ui(d:aR w tag L s)(k tp:Nat)(e:cR n)(b:∀r,s.T.rw n=some r->r.sa≠1/\r.sa≠4):dB s k n=s:=by
 unfold dB;split
 ·rfl
 ·rename_i r a
  rw[yb (λc=>by have:=b r a;omega)]
theorem xi(A:aR w tag L s)(tp:Nat)(u:cR n)(C:∀r,s.T.rw n=some r->r.sa≠1/\r.sa≠4):
 Calls Tryz.prog 84 #[ptr L.pb,ptr tp,aP n] w λk w'=>k=.returned (.tuple #[])/\ac w w':=by
 obtain⟨a,q⟩:=eX (w.alloc (.cells #[.int .u64 n.job,.string (sB n.M)] 58));have x:ac w a:=by rw[q];exact(aa.refl _ w).alloc _
 obtain⟨l,t⟩:=eX w.heap.size;have o:ae a l 58 #[.int .u64 n.job,.string (sB n.M)]:=by rw[q,t];exact bN
 have p:=A.U x;have B:=(p.p1 (by decide)).2;have z:=hD q.symm;have F:=hD t;have P:=hD u;have K:=hD p;have N:=hD o;have G:=hD x;have m:Hd (ac a (a.alloc (.cells #[.string ⟨#[]⟩,.int .i64 0,.slice none 0 0,.int .i64 0] 30))):=hD (oR.alloc _);have E:Hd (ae (a.alloc (.cells #[.string ⟨#[]⟩,.int .i64 0,.slice none 0 0,.int .i64 0] 30)) a.heap.size 30 #[.string ⟨#[]⟩,.int .i64 0,.slice none 0 0,.int .i64 0]):=hD (ae.new a _ _);have y:Hd (∀W,ac a W->Calls Tryz.prog 136 #[.pointer (some ⟨L.tb,0,none⟩),.agg #[.int .u64 n.job,.string (sB n.M)]] W λk w'=>∃c,k=.returned (.tuple #[.agg #[.string ⟨#[]⟩,.int .i64 0,.slice none 0 0,.int .i64 0],.int .i64 c])/\(c !=0)=true/\ac W w'):=hD λW g=>xV ((p.U g).p2 (by decide)) u C
 have d:Hd (∀W,ac a W->ac a W/\W.cell? ⟨L.pb,4,none⟩=some (.pointer (some ⟨L.tb,0,none⟩))/\W.cell? ⟨l,0,none⟩=some (.int .u64 n.job)/\W.cell? ⟨l,1,none⟩=some (.string (sB n.M))):=hD λW g=>⟨g,(g.J B nF).I 4,(g.J o nF).I 0,(g.J o nF).I 1⟩
 have a3:=d.O a oR;unfold ptr aP ew;clear A u C x q t o p B;go_enter Tryz.func84,Tryz.ntmps84;go_upto_region 1 with fail;rw[z.O,<-F.O];clear z
 go_cut [6,7] (λs6 s7 wx=>∃c,s7=.int .i64 c/\(c !=0)=true/\ac a wx)
 case first=>
  go_region_held3 (λw'=>ac a w'/\w'.cell? ⟨L.pb,4,none⟩=some (.pointer (some ⟨L.tb,0,none⟩))/\w'.cell? ⟨l,0,none⟩=some (.int .u64 n.job)/\w'.cell? ⟨l,1,none⟩=some (.string (sB n.M)))
   (first|with_reducible exact d.O _ f.O|with_reducible exact d.O _ (aa.alloc f.O _)|with_reducible exact d.O _ (aa.drew f.O)|with_reducible exact d.O _ m.O|with_reducible exact d.O _ (aa.drew m.O)|with_reducible exact d.O _ (aa.drew oR)|with_reducible exact d.O _ oR|(with_reducible refine d.O _ ?_;with_reducible refine aa.setCell ?_ (Or.inr (lR)) _;repeat (first|with_reducible exact f.O|with_reducible refine aa.setCell ?_ (Or.inr (lR)) _))|(trace_state;fail))
   (first
    |(go_at_call 136;refine(y.O a.drew (aa.drew oR)).mono ?_;rintro k b ⟨c,rfl,v,j⟩;have f:Hd (ac a b):=hD (aa.trans (aa.drew oR) j);clear j)
    |(go_at_call 136;refine(y.O _ (aa.drew m.O)).mono ?_;rintro k b ⟨c,rfl,v,j⟩;have f:Hd (ac a b):=hD (aa.trans (aa.drew m.O) j);have e:=hD (j.J E.O nF);have Q:b.cell? ⟨a.heap.size,0,none⟩=some (.string ⟨#[]⟩):=e.O.I 0;have R:b.cell? ⟨a.heap.size,1,none⟩=some (.int .i64 0):=e.O.I 1;have V:b.cell? ⟨a.heap.size,2,none⟩=some (.slice none 0 0):=e.O.I 2;have Y:b.cell? ⟨a.heap.size,3,none⟩=some (.int .i64 0):=e.O.I 3;have Z:b.frozen? ⟨a.heap.size,0,none⟩=false:=e.O.fz 0;have a0:b.frozen? ⟨a.heap.size,1,none⟩=false:=e.O.fz 1;have a1:b.frozen? ⟨a.heap.size,2,none⟩=false:=e.O.fz 2;have a2:b.frozen? ⟨a.heap.size,3,none⟩=false:=e.O.fz 3;clear j)
    |fail)
  all_goals (
   go_wp2_with fail;go_meet
   case rel=>exact⟨c,rfl,v,by first|exact f.O.alloc _|(repeat (first|exact f.O|refine aa.setCell ?_ (Or.inr (lR)) _))⟩)
 case rest=>
  obtain⟨c,rfl,v,D⟩:=hcut;have H:=hD D;clear D;go_wp2_with fail;refine bodyPost_ret (results_none rfl _ _ _) rfl ?_;exact⟨rfl,G.O.trans H.O⟩
def CW(w W1 wx:World)(tag:Nat->Nat)(L:cj)(rows:Nm->Option aC)(cnt:Nat)(t:aA)(tp:ByteArray)(fn:Int)(al:Nat)(tf:Int)(s6 s7:Value):Prop:=
 ∃g6 A2 c2,s7=.int .i64 0/\s6=.pointer (some ⟨g6,0,none⟩)/\w.heap.size<=g6/\ae wx g6 30 #[.string tp,.int .i64 fn,.slice A2 al c2,.int .i64 tf]/\aU wx (λb=>tag b=0) A2 t.args/\bD wx (λb=>tag b=2) L.tb L.mb L.most rows cnt L.rp/\aa (λb=>tag b=2) W1 wx
theorem fL(c:∀b,tag b≠0->b<w.heap.size){b:Nat}(d:w.heap.size<=b):tag b=0:=Decidable.byContradiction λa=>absurd (c b a) (zC.2 d)
theorem uP(a5:aR w tag L s){k tp:Nat}{th:Th}(er:L.tps[k]?=some tp)(ef:s.ths[k]?=some th)(d5:cR n){r:aC}(bv:s.T.rw n=some r)(bx:r.sa=1\/r.sa=4){p:List aj}(d7:s.progs n.job=some p)(e9:lH p)(ea:eh p r.tk)
 (ec:r.sa=1->s.T.fm n=none) (ee:r.sa=4->s.T.fm n≠none) (eq:s.T.fm n=none->∀(k:Nat) (th:Th),s.ths[k]?=some th->th.run=true->th.cur≠n) (ga:L.fn<=1000000000):
 Calls Tryz.prog 84 #[ptr L.pb,ptr tp,aP n] w λa w'=>a=.returned (.tuple #[])/\cl w w' tag L s (dB s k n) 1:=by
 have em:s.prog n.job=p:=by unfold PS.prog;rw[d7];rfl
 have eb:dB s k n= {s with T:=fQ (s.prog n.job) s.T n r,ths:=s.ths.set k {s.th k with cur:=n,run:=true}}:=by
  unfold dB;rw[bv];simp only;rw[yf bx]
 obtain⟨c,br⟩:=eX (w.alloc (.cells #[.int .u64 n.job,.string (sB n.M)] 58));have b4:ac w c:=by rw[br];exact(aa.refl _ w).alloc _
 obtain⟨u,bt⟩:=eX w.heap.size;have bn:ae c u 58 #[.int .u64 n.job,.string (sB n.M)]:=by rw[br,bt];exact bN
 have H:=a5.U b4;have b2:=(H.p1 (by decide)).2;have dw:=hD br.symm;have c5:=hD bt;have c8:=hD d5;have f0:=hD H;have f3:=hD bn;have f8:=hD b4;have bk:Hd (ac c (c.alloc (.cells #[.string ⟨#[]⟩,.int .i64 0,.slice none 0 0,.int .i64 0] 30))):=hD (oR.alloc _);have f2:Hd (ae (c.alloc (.cells #[.string ⟨#[]⟩,.int .i64 0,.slice none 0 0,.int .i64 0] 30)) c.heap.size 30 #[.string ⟨#[]⟩,.int .i64 0,.slice none 0 0,.int .i64 0]):=hD (ae.new c _ _);obtain⟨kp,d3⟩:=eX (sB r.tk.M);obtain⟨a8,d2⟩:=eX r.tk.fn;obtain⟨a7,d1⟩:=eX r.tk.args.length;obtain⟨a9,d4⟩:=eX ((r.tk.fuel:Int):Int);have bf:=hD (aI d3 (aI d2 (aI d1 d4)));obtain⟨rows,dk⟩:=eX (au s.T.rw n (some {r with sa:=2}));have dv:=hD dk
 have c3:Hd (∀W,ac c W->Calls Tryz.prog 136 #[.pointer (some ⟨L.tb,0,none⟩),.agg #[.int .u64 n.job,.string (sB n.M)]] W λa w'=>∃ba c',a=.returned (.tuple #[.agg #[.string kp,.int .i64 a8,.slice ba a7 c',.int .i64 a9],.int .i64 0])/\aU w' (λb=>tag b=0) ba r.tk.args/\bD w' (λb=>tag b=2) L.tb L.mb L.most rows s.T.ks.length L.rp/\aa (λb=>tag b=2) W w'):=hD λW j=>by
  refine(vB ((H.U j).tagB (by decide)) ((H.U j).p2 (by decide)) d5 bv bx).mono ?_;rintro a w' ⟨ba,c',rfl,fx,a6,g0⟩;refine⟨ba,c',by rw[d3,d2,d1,d4];rfl,fx.mo λb A=>fL a5.tlt (lT (b4.trans j).size A.1),by rw[dk];exact a6,g0⟩
 have m:Hd (∀W,aa (λb=>tag b=2) c W->aa (λb=>tag b=2) c W/\W.cell? ⟨L.pb,4,none⟩=some (.pointer (some ⟨L.tb,0,none⟩))/\W.cell? ⟨u,0,none⟩=some (.int .u64 n.job)/\W.cell? ⟨u,1,none⟩=some (.string (sB n.M))):=hD λW j=>by
  have e3:¬tag L.pb=2:=λa=>by have:=(a5.p1 (by decide)).1;rw[a] at this;exact absurd this (by decide)
  have ci:¬tag u=2:=λa=>by have:=fL a5.tlt (b:=u) (by rw[bt];exact lR);rw[a] at this;exact absurd this (by decide)
  exact⟨j,(j.J b2 e3).I 4,(j.J bn ci).I 0,(j.J bn ci).I 1⟩
 have cr:=m.O c oR;have c9:Hd (∀W,ac c W->aa (λb=>tag b=2) c W):=hD λW j=>j.mono λ_ a=>a.elim
 have cb:Hd (∀b,w.heap.size<=b->¬tag b=2):=hD λb A a=>by have:=fL a5.tlt A;rw[a] at this;exact absurd this (by decide)
 have f6:=hD a5;have l:=hD (aI er (aI ef (aI bv bx)));have y:=hD (aI d7 (aI em (aI e9 ea)));have c4:=hD (aI ec (aI ee eq));have bc:=hD eb;have bm:Hd (w.heap.size<=c.heap.size):=hD b4.size;unfold ptr aP ew;clear a5 d5 bv bx b4 br bt bn H b2 d3 d2 d1 d4 dk er ef d7 e9 ea em ec ee eq eb;go_enter Tryz.func84,Tryz.ntmps84;go_upto_region 1 with fail;rw[dw.O,<-c5.O];clear dw
 go_cut [6,7] (λs6 s7 wx=>CW w c wx tag L rows s.T.ks.length r.tk kp a8 a7 a9 s6 s7)
 case first=>
  go_region_held3 (λw'=>aa (λb=>tag b=2) c w'/\w'.cell? ⟨L.pb,4,none⟩=some (.pointer (some ⟨L.tb,0,none⟩))/\w'.cell? ⟨u,0,none⟩=some (.int .u64 n.job)/\w'.cell? ⟨u,1,none⟩=some (.string (sB n.M)))
   (first|with_reducible exact m.O _ K.O|with_reducible exact m.O _ (aa.alloc K.O _)|with_reducible exact m.O _ (aa.drew K.O)|with_reducible exact m.O _ (c9.O _ bk.O)|with_reducible exact m.O _ (c9.O _ (aa.drew bk.O))|with_reducible exact m.O _ (aa.drew oR)|with_reducible exact m.O _ oR|(with_reducible refine m.O _ ?_;with_reducible refine aa.setCell ?_ (Or.inr (lR)) _;repeat (first|with_reducible exact K.O|with_reducible refine aa.setCell ?_ (Or.inr (lR)) _))|(trace_state;fail))
   (first
    |(go_at_call 136;refine(c3.O c.drew (aa.drew oR)).mono ?_;rintro a e ⟨B,D,rfl,a6,b8,am⟩;have K:Hd (aa (λb=>tag b=2) c e):=hD (aa.trans (aa.drew oR) am);have c6:=hD a6;have cd:=hD b8;clear am a6 b8)
    |(go_at_call 136;refine(c3.O _ (aa.drew bk.O)).mono ?_;rintro a e ⟨B,D,rfl,a6,b8,am⟩;have K:Hd (aa (λb=>tag b=2) c e):=hD (aa.trans (c9.O _ (aa.drew bk.O)) am);have C:=hD (am.J f2.O (cb.O _ bm.O));have c6:=hD a6;have cd:=hD b8;have g4:e.cell? ⟨c.heap.size,0,none⟩=some (.string ⟨#[]⟩):=C.O.I 0;have e3:e.cell? ⟨c.heap.size,1,none⟩=some (.int .i64 0):=C.O.I 1;have ci:e.cell? ⟨c.heap.size,2,none⟩=some (.slice none 0 0):=C.O.I 2;have g5:e.cell? ⟨c.heap.size,3,none⟩=some (.int .i64 0):=C.O.I 3;have g6:e.frozen? ⟨c.heap.size,0,none⟩=false:=C.O.fz 0;have g7:e.frozen? ⟨c.heap.size,1,none⟩=false:=C.O.fz 1;have g8:e.frozen? ⟨c.heap.size,2,none⟩=false:=C.O.fz 2;have g9:e.frozen? ⟨c.heap.size,3,none⟩=false:=C.O.fz 3;clear am a6 b8)
    |fail)
  all_goals (
   go_wp2_with fail;go_meet)
  case rel=>
   have dq:=(aa.refl (λ_=>False) e).alloc (.cells #[.string kp,.int .i64 a8,.slice B a7 D,.int .i64 a9] 30);exact⟨e.heap.size,B,D,rfl,rfl,lT bm.O K.O.size,bN,c6.O.kp dq nG,cd.O.kp dq nG,K.O.trans (dq.mono λ_ a=>a.elim)⟩
  case rel=>
   obtain⟨E,F⟩:=set4 C.O rfl (.string kp) (.int .i64 a8) (.slice B a7 D) (.int .i64 a9);exact⟨c.heap.size,B,D,rfl,rfl,bm.O,E,c6.O.by_type F C.O (by decide),cd.O.kp F (λb A a=>cb.O b (by rw[a];exact bm.O) A),K.O.trans' F (λb a=>.inr (by rw[a];exact lR))⟩
 case rest=>
  obtain⟨N,B,D,rfl,rfl,gf,e2,es,eL,G⟩:=hcut;obtain⟨e,fr⟩:=eX wc;subst fr;have bo:aR e tag L {s with T:={s.T with rw:=rows}}:=(f0.O.same G).fill2 (T':={s.T with rw:=rows}) eL rfl;have b2:=(bo.p1 (by decide)).2;have cB:=G.J f3.O (cb.O u (by rw[c5.O];exact lR));have ai:=b2.I 9;simp[bi] at ai;obtain⟨ar,aw⟩:=cB.gE2;obtain⟨gc,fs⟩:=c8.O.key;have Q:=(((bo.p11 (by decide)).2).heap (w':=e.drew) rfl).look gg Tryz.underlying119 (z:=.pointer none) (by kernel_rfl) fs;rw[gM] at Q;change (Instr.lookup 119 (.map (some L.fb)) (.agg #[.int .u64 n.job,.string (sB n.M)]) false).run Tryz.prog e.drew=.ok (((s.T.fm n).map λ_=>ptr (L.fp n)).getD (.pointer none)) e.drew at Q;obtain⟨o,cs⟩:=eX e.drew;have an:ac e o:=by rw[cs];exact oR.drew
  have cm:=bo.U an;have a0:=hD cm;have c2:=hD (an.J cB nF);have f1:=hD (an.J e2 nF);have f7:=hD (es.kp an nG);have dz:=hD cs.symm;have e0:Hd (aK w o tag tag):=hD (((aK.U f8.O).trans (aK.same (by decide) G)).trans (aK.U an));obtain⟨c0,d,av,fv,E,F,R,g,V,Y,g1,g2⟩:=(cm.p15 (by decide)).2.1 k th l.O.2.1;rw[l.O.1] at E
  cases E
  have fa:=hD (aI R (aI g (aI V Y)));have f9:=hD F;clear e2 es eL G bo b2 cB cs an cm F R g V Y g1 g2 cr c3 m
  by_cases b0:r.sa=4
  ·obtain⟨f,P⟩ :∃f,s.T.fm n=some f:=Option.ne_none_iff_exists'.1 (c4.O.2.1 b0)
   rw[P] at Q;have a1:=hD P;change (Instr.lookup 119 (.map (some L.fb)) (.agg #[.int .u64 n.job,.string (sB n.M)]) false).run Tryz.prog e.drew=.ok (.pointer (some ⟨L.fp n,0,none⟩)) e.drew at Q;clear P;go_upto_region 3 with fail
   go_still_tail 6,(by kernel_rfl)
   change wpList _ _ _ _ _ e.drew;rw[dz.O];go_upto_region 7 with fail;clear Q ai ar aw;obtain⟨ar,aw⟩:=c2.O.gE2;obtain⟨c0,d,av,fv,E,F,R,g,V,Y,_⟩:=(a0.O.p15 (by decide)).2.1 k th l.O.2.1;have dp:tp=c0:=yz (l.O.1.symm.trans E);subst dp;have cf:=g.I 3;have cg:=g.I 4;have ch:=g.I 5;simp[dj] at cf cg ch;have fk:=g.fz 3;have fo:=g.fz 4;have a4:=g.fz 5;have c7:=hD g;have a2:=hD (aI R (aI V Y));have fj:(o.setCell ⟨tp,3,none⟩ (.int .u64 n.job)).cell? ⟨tp,4,none⟩=some (.string (sB th.cur.M)):=by rw[(g.s_ 3 _).I 4];simp[dj]
   clear E F R g V Y;go_wp2_with fail
   go_end0
   have aE:=((c7.O.s_ 3 (.int .u64 n.job)).s_ 4 (.string (sB n.M))).s_ 5 (.pointer (some ⟨(L.fp n),0,none⟩));rw[tU] at aE;have b5:aa (λb=>b=tp) o (((o.setCell ⟨tp,3,none⟩ (.int .u64 n.job)).setCell ⟨tp,4,none⟩ (.string (sB n.M))).setCell ⟨tp,5,none⟩ (.pointer (some ⟨(L.fp n),0,none⟩))):=((ag _ tp 3 _).trans (ag _ tp 4 _)).trans (ag _ tp 5 _);have cp:=aQ.thread (k:=k) (th:=th) (av:=av) {th with cur:=n,run:=true} a0.O l.O.2.1 l.O.1 a2.O.1 b5 aE a2.O.2.1 a2.O.2.2 (λ_=>rfl) (λa=>by cases a)
   have dm:tag tp=15:=by
    obtain⟨_,_,_,_,Z,b7,_⟩:=(a0.O.p15 (by decide)).2.1 k th l.O.2.1;rw[show _=tp from yz (Z.symm.trans l.O.1)] at b7;exact b7
   refine⟨rfl,tag,L,?_,e0.O.trans (aK.same (i:=15) (by decide) (b5.mono λb a=>by rw[a];exact dm)),?_⟩
   ·rw[bc.O,PS.th_eq l.O.2.1]
    have:({({s with T:={s.T with rw:=rows}}:PS) with ths:=(({s with T:={s.T with rw:=rows}}:PS)).ths.set k {th with cur:=n,run:=true}}:PS)= {s with T:=fQ (s.prog n.job) s.T n r,ths:=s.ths.set k {th with cur:=n,run:=true}}:=by
     unfold fQ;rw[a1.O,dv.O]
     first|rfl|(simp only[zU];rw[<-a1.O,jc])|(simp only[Option.getD_none];rw[y.O.2.1])
    rw[<-this];exact cp
   ·rw[bc.O]
    exact⟨rfl,rfl,rfl,rfl,by omega,by omega,by simp;omega,[],by simp[fQ],by simp⟩
  ·have H:r.sa=1:=l.O.2.2.2.resolve_right b0
   have P:=c4.O.1 H;rw[P] at Q;have a1:=hD P;change (Instr.lookup 119 (.map (some L.fb)) (.agg #[.int .u64 n.job,.string (sB n.M)]) false).run Tryz.prog e.drew=.ok (.pointer none) e.drew at Q;go_upto_region 3 with fail
   go_still_tail 6,(by kernel_rfl)
   change wpList _ _ _ _ _ e.drew;rw[dz.O];go_upto_region 5 with fail;clear Q ai ar aw fa f9;obtain⟨pA,d6⟩ :∃x,x=L.pA n.job:=⟨_,rfl⟩
   obtain⟨pn,d8⟩ :∃x,x=p.length:=⟨_,rfl⟩
   have ei:∀W,ac o W->(Instr.lookup 116 (.map (some L.gb)) (.int .u64 n.job) false).run Tryz.prog W=.ok (.agg #[.slice pA.1 pn pA.2]) W:=λW j=>by
    have:=((a0.O.U j).p8 (by decide)).2.look (t:=116) mI Tryz.underlying116 (z:=.agg #[.slice none 0 0]) (by kernel_rfl) (Maps.keyOf_int_mk Tryz.underlying54 c8.O.1);rw[lP] at this;change _=Result.ok (((s.progs n.job).map λp=>aS p (L.pA n.job).1 (L.pA n.job).2).getD _) W at this;rw[y.O.1,<-d6] at this;rw[this,d8];rfl
   have ds:Hd (∀W,ac o W->Calls Tryz.prog 62 #[.agg #[.slice pA.1 pn pA.2],.agg #[.string kp,.int .i64 a8,.slice B a7 D,.int .i64 a9]] W λa w'=>∃e5 L,a=.returned (.tuple #[.pointer (some ⟨e5,0,none⟩),.int .i64 0])/\aT w' (bC W w') e5 L p (Fr.begun p r.tk)/\ac W w'):=hD λW j=>by
    have b0:=a0.O.U j;have:=sX p pA.1 B pA.2 D (λb=>tag b=4) (λb=>tag b=0) r.tk W (by rw[d6];exact b0.p4 (by decide) n.job p y.O.1) (b0.tagB (by decide)) y.O.2.2.1.ck y.O.2.2.1.ok y.O.2.2.1.wf (f7.O.kp j nG) y.O.2.2.2;unfold xR aS db at this;rw[<-bf.O.1,<-bf.O.2.1,<-bf.O.2.2.1,<-bf.O.2.2.2,<-d8] at this;exact this
   have ej:=(a0.O.p1 (by decide)).2
   have m:Hd (∀W,ac o W->ac o W/\W.cell? ⟨L.pb,5,none⟩=some (.map (some L.gb))/\W.cell? ⟨u,0,none⟩=some (.int .u64 n.job)/\W.cell? ⟨N,0,none⟩=some (.string kp)/\W.cell? ⟨N,1,none⟩=some (.int .i64 a8)/\W.cell? ⟨N,2,none⟩=some (.slice B a7 D)/\W.cell? ⟨N,3,none⟩=some (.int .i64 a9)/\(Instr.lookup 116 (.map (some L.gb)) (.int .u64 n.job) false).run Tryz.prog W=.ok (.agg #[.slice pA.1 pn pA.2]) W):=hD λW j=>by
    have Z:=j.J f1.O nF;exact⟨j,(j.J ej nF).I 5,(j.J c2.O nF).I 0,Z.I 0,Z.I 1,Z.I 2,Z.I 3,ei W j⟩
   have cr:=m.O o oR;clear d6 d8 ej ei
   go_region_held3 (λW=>ac o W/\W.cell? ⟨L.pb,5,none⟩=some (.map (some L.gb))/\W.cell? ⟨u,0,none⟩=some (.int .u64 n.job)/\W.cell? ⟨N,0,none⟩=some (.string kp)/\W.cell? ⟨N,1,none⟩=some (.int .i64 a8)/\W.cell? ⟨N,2,none⟩=some (.slice B a7 D)/\W.cell? ⟨N,3,none⟩=some (.int .i64 a9)/\(Instr.lookup 116 (.map (some L.gb)) (.int .u64 n.job) false).run Tryz.prog W=.ok (.agg #[.slice pA.1 pn pA.2]) W)
    (first|with_reducible exact m.O _ (aa.trans (aa.drew oR) ab.O)|with_reducible exact m.O _ (aa.drew oR)|with_reducible exact m.O _ oR|fail)
    (first
     |(go_at_call 62;refine(ds.O o.drew (aa.drew oR)).mono ?_;rintro a a3 ⟨q,fl,rfl,e4,ex⟩;have ab:=hD ex;have a4:=hD e4;clear ex e4)
     |fail)
   clear cr m;obtain⟨ad,b1⟩:=eX o.drew;have g3:Hd (o.drew=ad):=hD b1.symm;have ce:Hd (ac o ad):=hD (by rw[b1];exact oR.drew);have bb:=hD (a0.O.U ce.O);have dr:=hD (ce.O.J c2.O nF);have ab:ac ad a3:=by rw[b1];exact ab.O
   have a4:aT a3 (bC ad a3) q fl p (Fr.begun p r.tk):=by rw[b1];exact a4.O
   clear b1;go_upto_region 6 with fail;obtain⟨e1,cv⟩:=eX a3.drew;have G:ac a3 e1:=by rw[cv];exact oR.drew
   have bp:=bb.O.retag ab (100+q);obtain⟨b9,b3⟩ :∃t,t=ct tag ad a3 (100+q):=⟨_,rfl⟩
   rw[<-b3] at bp;have bq:=bp.U G;obtain⟨ge,eg⟩:=c8.O.key;obtain⟨az,el,e8,b6⟩:=(bq.p11 (by decide)).2.put (t:=119) (v:=ptr q) gg Tryz.underlying119 eg (by unfold maxLen;omega);have al:=(bq.p11 (by decide)).1;have e7:=bq.same (i:=11) (b6.mono λb a=>by rw[a];exact al);have fw:ad.heap.size<=q:=a4.ff.1;obtain⟨cn,d0⟩:=eX ((if (dP (λbz=>(s.T.fm bz).map λ_=>ptr (L.fp bz)) (aP n)).isSome then L.fn else L.fn+1));have dl:({s with T:={s.T with rw:=rows}}:PS).prog n.job=p:=y.O.2.1
   have e6:=e7.frameNew (n:=n) (q:=q) (cn:=cn) (l':=fl) (f':=Fr.begun p r.tk) a1.O (c4.O.2.2 a1.O) (by
    rw[dl];refine((a4.mo λb A=>?_).kp G nG).kp b6 (λb A a=>?_)
    ·rw[b3];exact fe A
    ·have A:b9 b=100+q:=A
     rw[a,al] at A;omega) (λ_=>by rw[dl];exact pR y.O.2.2.1.ok y.O.2.2.2) (λbz ft a=>by
    obtain⟨f,P⟩:=Option.ne_none_iff_exists'.1 ft;have:=(bb.O.p16 bz f P (by simp)).1.ff;have H:=bb.O.tlt _ (by rw[this];omega);rw[a] at H;omega) ⟨al,by rw[d0];exact e8⟩
   have fd:Hd (aK w az tag b9):=hD (((((e0.O.trans (aK.U ce.O)).trans (by rw[b3];exact aK.retag bb.O.tlt ab (100+q)))).trans (aK.U G)).trans (aK.same (i:=11) (by decide) (b6.mono λb a=>by rw[a];exact al)));have c1:=hD e6;have f5:Hd ((cn:Int)<=L.fn+1):=hD (by rw[d0];split<;>omega);have cq:=ab.J dr.O nF
   have dn:b9 u=0:=by
    have fq:tag u=0:=fL f6.O.tlt (by rw[c5.O];exact lR);rw[b3];unfold ct;rw[yb (λa=>zC.2 a.1 dr.O.lt)];exact fq
   have f4:=hD (b6.J (G.J cq nF) (λa=>by rw[a,al] at dn;exact absurd dn (by decide)));have ek:=(bp.p1 (by decide)).2;have ai:=ek.I 9;simp[bi] at ai;obtain⟨ar,aw⟩:=cq.gE2;have fb:=hD cv.symm;change (Instr.mapUpdate 119 (.map (some L.fb)) (.agg #[.int .u64 n.job,.string (sB n.M)]) (.pointer (some ⟨q,0,none⟩))).run Tryz.prog e1=.ok () az at el;clear ds a4 ab cv G bp b3 bq eg e8 b6 al e7 fw d0 dl e6 cq dn ek
   go_still_tail 6,(by kernel_rfl)
   change wpList _ _ _ _ _ a3.drew;rw[fb.O];go_upto_region 7 with fail;clear ai ar aw el;obtain⟨ar,aw⟩:=f4.O.gE2;obtain⟨c0,d,av,fv,E,F,R,g,V,Y,_⟩:=(c1.O.p15 (by decide)).2.1 k th l.O.2.1;have dp:tp=c0:=yz (l.O.1.symm.trans E);subst dp;have cf:=g.I 3;have cg:=g.I 4;have ch:=g.I 5;simp[dj] at cf cg ch;have fk:=g.fz 3;have fo:=g.fz 4;have a4:=g.fz 5;have c7:=hD g;have a2:=hD (aI R (aI V Y));have fj:(az.setCell ⟨tp,3,none⟩ (.int .u64 n.job)).cell? ⟨tp,4,none⟩=some (.string (sB th.cur.M)):=by rw[(g.s_ 3 _).I 4];simp[dj]
   clear E F R g V Y;go_wp2_with fail
   go_end0
   have aE:=((c7.O.s_ 3 (.int .u64 n.job)).s_ 4 (.string (sB n.M))).s_ 5 (.pointer (some ⟨q,0,none⟩));rw[tU] at aE;have b5:aa (λb=>b=tp) az (((az.setCell ⟨tp,3,none⟩ (.int .u64 n.job)).setCell ⟨tp,4,none⟩ (.string (sB n.M))).setCell ⟨tp,5,none⟩ (.pointer (some ⟨q,0,none⟩))):=((ag _ tp 3 _).trans (ag _ tp 4 _)).trans (ag _ tp 5 _);have cp:=aQ.thread (k:=k) (th:=th) (av:=av) {th with cur:=n,run:=true} c1.O l.O.2.1 l.O.1 a2.O.1 b5 aE a2.O.2.1 a2.O.2.2 (λ_=>(by show _=ptr (au L.fp n q n);rw[ax];rfl)) (λa=>by cases a)
   have dm:b9 tp=15:=by
    obtain⟨_,_,_,_,Z,b7,_⟩:=(c1.O.p15 (by decide)).2.1 k th l.O.2.1;rw[show _=tp from yz (Z.symm.trans l.O.1)] at b7;exact b7
   refine⟨rfl,b9,({L with fp:=au L.fp n q,fl:=au L.fl n fl,fn:=cn}:cj),?_,fd.O.trans (aK.same (i:=15) (by decide) (b5.mono λb a=>by rw[a];exact dm)),?_⟩
   ·rw[bc.O,PS.th_eq l.O.2.1]
    have:({({s with T:={{s.T with rw:=rows} with fm:=au s.T.fm n (some (Fr.begun p r.tk))}}:PS) with ths:=(({s with T:={{s.T with rw:=rows} with fm:=au s.T.fm n (some (Fr.begun p r.tk))}}:PS)).ths.set k {th with cur:=n,run:=true}}:PS)= {s with T:=fQ (s.prog n.job) s.T n r,ths:=s.ths.set k {th with cur:=n,run:=true}}:=by
     unfold fQ;rw[a1.O,dv.O]
     first|rfl|(simp only;rw[<-a1.O,jc])|(simp only[Option.getD_none];rw[y.O.2.1])
    rw[<-this];exact cp
   ·rw[bc.O]
    exact⟨rfl,rfl,rfl,rfl,by simp;omega,f5.O,by simp;omega,[],by simp[fQ],by simp⟩
end
end
end Go.Proofs.YtmdocplknceilaaGreat
