import Derived.Test.YtmdocplknceilaaGreatRWAB
set_option linter.all false
namespace Go.Proofs.YtmdocplknceilaaGreat
section
open Classical
section
variable {G:dg}{s s' s1:PS}{ex ex':Nm->Prop}{k j i:Nat}{th th':Th}{n m:Nm}{r:aG}
theorem oQ{t:TS}(e:cA G t)(o:t.rw n=some r)(x:aL)(here:Bool)(m:Nm):
 (m=n/\(bI t n r x here).rw m=some {r with sa:=6,res:=x,here:=here})\/
 (m≠n/\r.fk=true/\m=dL n/\∃q,t.rw m=some q/\(bI t n r x here).rw m=some (fz q))\/
 (m≠n/\(r.fk=true->m≠dL n)/\(bI t n r x here).rw m=t.rw m):=by
 by_cases b:m=n
 ·subst b
  refine .inl ⟨rfl,?_⟩;simp only[bI]
  cases hf:r.fk with
  |false=>simp only[ay]
  |true=>
   obtain⟨i,q',l,d,u,v⟩:=e.parent o hf;simp only[d];rw[ag _ _ (λb=>iy (dL m) i (by rw[<-l,<-b])),ay]
 ·refine .inr ?_
  cases hf:r.fk with
  |false=>
   refine .inr ⟨b,λe=>(by cases e),?_⟩;simp only[bI,hf,ag _ _ b]
  |true=>
   obtain⟨i,q',l,d,u,v⟩:=e.parent o hf
   by_cases g:m=dL n
   ·subst g
    exact .inl ⟨b,rfl,rfl,q',d,by simp only[bI,hf,d,ay]⟩
   ·refine .inr ⟨b,λ_=>g,?_⟩
    simp only[bI,hf,d,ag _ _ g,ag _ _ b]
theorem jt{t:TS}{q:aG}(b:r.fk=true)(d:t.rw (dL n)=some q):fE t n r=decide (q.sa=3/\q.opn-1=0):=by
 simp only[fE,b,d]
theorem nC{rows:Nm->Option aG}{kn:Nat}(b:dY rows n kn=0):∀i,i<kn->cI rows (aH n i)=false:=by
 intro i e;unfold dY at b;have d:=List.filter_eq_nil_iff.1 (yr b) i (zw.2 e)
 simpa using d
theorem qY{t:TS}(d:cA G t)(q:t.rw n=some r)(E:r.opn=0){p:List ah}{x:aj}(g:G n.job=some (p,x)):∀(l:List Nat) (f:Fr),(∀i∈l,i<r.kn)->kz p r f->kz p r (bU t.rw n l f)/\(bU t.rw n l f).waits=f.waits
 | [],f,_,b=>⟨b,rfl⟩
 |i :: l,f,w,b=>by
  have o:=w i (by simp);have y:=nC (rows:=t.rw) (n:=n) (kn:=r.kn) (by have:=(d.row n r q).opn;omega) i o;obtain⟨Q,R,c,k,u,e,C,D,S,T⟩:=d.child q o;rw[g] at u
  cases u
  have F:c.sa=6:=by
   simp only[cI,e] at y
   simpa using y
  obtain⟨Q,R,v,V,P⟩:=(d.row _ c e).node;rw[qt,g] at v
  cases v
  have N:c.res=bw p k:=by rw[(P.over F).2.1,D]
  have L:=C6 (p:=p) (t:=r.tk) (kn:=r.kn) o C
  have H:kz p r (f.give i c.res):=by
   refine⟨b.M,b.fn,b.res,by simp only[Fr.give,yI];exact b.kd,b.ok.give (by rw[L,N]),?_⟩;rw[CF b.ok];exact b.fin_
  have z:=qY d q E g l (f.give i c.res) (λj K=>w j (by simp[K])) H;have A:kP t.rw (aH n i)=c.res:=by unfold kP;rw[e]
  simp only[bU,A];exact⟨z.1,z.2⟩
theorem fN(t:TS)(n:Nm)(r:aG)(st:Nat)(f:Fr)(m:Nm):(iQ t n r st f).rw m=if m=n then some {r with sa:=st} else t.rw m:=rfl
theorem jh(t:TS)(n:Nm)(r:aG)(f:Fr)(c:aG)(m:Nm):(bQ t n r f c).rw m=if m=aH n r.kn then some c else if m=n then some {r with opn:=r.opn+(if c.sa=6 then 0 else 1),kn:=r.kn+1} else t.rw m:=rfl
theorem js(b:s.ths[k]?=some th)(T':TS):({s with T:=T'}:PS)= {s with T:=T',ths:=s.ths.set k th}:=by rw[qA b]
theorem aK.current(b:aK G s ex)(q:s.ths[k]?=some th)(v:th.run=true):∃r p x f,s.T.rw th.cur=some r/\r.sa=2/\G th.cur.job=some (p,x)/\bM p x th.cur.M=some r.tk/\s.T.fm th.cur=some f/\kz p r f/\s.prog th.cur.job=p:=by
 obtain⟨r,d,e⟩:=(b.th k th q).run v;obtain⟨p,x,g,u,w⟩:=(b.t.row _ r d).node;obtain⟨f,l,o,_⟩:=w.runs (.inl e);exact⟨r,p,x,f,d,e,g,u,l,o,b.prog g⟩
theorem lp(A:cA G s.T){p:List ah}{t:aj}{f:Fr}(E:s.T.rw n=some r)(d:kz p r f)(q:lO p f (jB p r.tk r.kn) ((f.run1 p).1,.fork t)):
 (aR p r.tk)[r.kn]?=some t/\s.T.rw (aH n r.kn)=none/\∀o,kz p {r with opn:=o,kn:=r.kn+1} (f.run1 p).1:=by
 obtain⟨w,e,y,H,z,K,L,N,P,F⟩:=q.fork t rfl;rw[d.fin_] at e;have b:(aR p r.tk).drop r.kn=t :: (gJ p (f.run1 p).1 (jB p r.tk r.kn++ [bw p t])).2:=(Prod.mk.inj e).2
 have v:r.kn<(aR p r.tk).length:=by
  rcases zO r.kn (aR p r.tk).length with g|g
  ·exact g
  ·rw[List.drop_eq_nil_of_le g] at b;cases b
 rw[yM v] at b;obtain⟨C,D⟩:=List.cons.inj b;have l:(aR p r.tk)[r.kn]?=some t:=by rw[gG v,C]
 have u:jB p r.tk r.kn++ [bw p t] =jB p r.tk (r.kn+1):=by
  unfold jB;rw[yO,yS,l];rfl
 refine⟨l,A.fresh E (dJ l).2.1,λo=>⟨q.M.trans d.M,q.fn.trans d.fn,y,by simp only;rw[z,d.kd],?_,?_⟩⟩
 ·simp only;rw[<-u];exact w
 ·simp only
  rw[<-u,D];exact Prod.ext (Prod.mk.inj e).1.symm rfl
theorem aK.fork_T(v:aK G s ex)(z:s.ths[k]?=some th)(y:th.act=none)(u:th.run=true){p:List ah}{x t:aj}{f:Fr}(q:th.cur=n)(W:s.T.rw n=some r)(w:r.sa=2)(S:G n.job=some (p,x))
 (V:(aR p r.tk)[r.kn]?=some t) (R:s.T.rw (aH n r.kn)=none) (L:∀o,kz p {r with opn:=o,kn:=r.kn+1} f)
 (c:aG) (ex':Nm->Prop) (A:c.tk=t) (C:c.fk=true) (D:c.kn=0) (E:c.opn=0) (F:c.here=false)
 (H:c.sa=1/\¬s.T.outs (aH n r.kn)\/c.sa=5/\s.T.outs (aH n r.kn)\/c.sa=6/\s.T.outs (aH n r.kn)/\c.res=bw p t) (P:∀m,¬ex' m->¬ex m) (Q:c.sa=1->ex' (aH n r.kn)):aK G {s with T:=bQ s.T n r f c} ex':=by
 have N:=v.t.fork W w S V (L _) A C D E F H;rw[js z];refine v.turnT N z y y (λm g=>?_) (λm r' b e l=>?_) (λm r' b e=>?_) (λm r' b e l=>?_) (λ_=>?_) (λ_=>.inl ⟨u,rfl⟩)
 ·rw[jh] at g
  split at g
  ·cases g
  ·split at g
   ·cases g
   ·exact⟨g,Iff.rfl⟩
 ·rw[jh] at b
  split at b
  ·rename_i d
   cases b
   subst d
   rcases e with e|e
   ·exact absurd (Q e) l
   ·omega
  ·split at b
   ·cases b;simp only at e;omega
   ·exact⟨r',b,rfl,P m l⟩
 ·rw[jh] at b
  split at b
  ·cases b;omega
  ·split at b
   ·rename_i d;exact .inl ⟨u,by rw[q,d]⟩
   ·rename_i X K;exact .inr ⟨λ_ d=>K (by rw[<-d,q]),r',b,e⟩
 ·rw[jh,yb (λd=>by rw[d,R] at b;cases b),yb (λd=>l u (by rw[q,d]))]
  exact⟨r',b,e⟩
 ·rw[q,jh,yb (λd=>iy n r.kn d.symm),yf rfl]
  exact⟨_,rfl,w⟩
theorem aK.fork_mid(e:aK G s ex)(y:s.ths[k]?=some th)(u:th.act=none)(D:th.run=true){p:List ah}{x t:aj}{f:Fr}(v:th.cur=n)(C:s.T.rw n=some r)(d:r.sa=2)(w:G n.job=some (p,x))
 (A:(aR p r.tk)[r.kn]?=some t) (g:s.T.rw (aH n r.kn)=none) (q:∀o,kz p {r with opn:=o,kn:=r.kn+1} f) (z:s.known (aH n r.kn)=none) (E:¬s.away (aH n r.kn)=true):
 aK G {s with T:=bQ s.T n r f ⟨t,1,0,⟨0,0⟩,true,0,false⟩} (λm=>ex m\/m=aH n r.kn):=
 e.fork_T y u D v C d w A g q ⟨t,1,0,⟨0,0⟩,true,0,false⟩ _ rfl rfl rfl rfl rfl (.inl ⟨rfl,λb=>by rcases(e.outN _ g).1 b with b|b;exact b z;exact E b⟩) (λm l d=>l (.inl d)) (λ_=>.inr rfl)
theorem aK.fork(b:aK G s ex)(q:s.ths[k]?=some th)(g:th.act=none)(E:th.run=true){p:List ah}{x t:aj}{f:Fr}(A:th.cur=n)(v:s.T.rw n=some r)(w:r.sa=2)(o:G n.job=some (p,x))(K:bM p x n.M=some r.tk)
 (F:kz p r f) (L:lO p f (jB p r.tk r.kn) ((f.run1 p).1,.fork t)):aK G (i5 s k n r (f.run1 p).1 t) ex:=by
 obtain⟨u,l,z⟩:=lp b.t v F L;have D:=b.outN _ l;have key:=b.fork_T q g E A v w o u l z;unfold i5
 cases hkn:s.known (aH n r.kn) with
 |some y=>
  refine key _ ex rfl rfl rfl rfl rfl (.inr (.inr ⟨rfl,D.2 (.inl (by rw[hkn];simp)),?_⟩)) (λm b=>b) (λe=>by simp at e);exact b.known _ y p x t hkn o (mI K u)
 |none=>
  simp only
  by_cases d:s.away (aH n r.kn)=true
  ·rw[yf d]
   exact key _ ex rfl rfl rfl rfl rfl (.inr (.inl ⟨rfl,D.2 (.inr d)⟩)) (λm b=>b) (λe=>by simp at e)
  ·rw[yb d]
   have H:=b.fork_mid q g E A v w o u l z hkn d;refine(H.push (k:=k) (th:=th) q g (aH n r.kn) (λr' N P=>?_)).exMono (λm C=>C.1.resolve_right C.2);show s.roots _=none
   cases hro:s.roots (aH n r.kn) with
   |none=>rfl
   |some y=>exact absurd (b.roots _ (by rw[hro];simp)) (jk _ _)
theorem aK.done_mid(A:aK G s ex)(Q:s.ths[k]?=some th)(F:th.act=none)(S:th.run=true){p:List ah}{x:aj}{y:aL}(D:th.cur=n)(E:s.T.rw n=some r)(L:r.sa=2)(P:G n.job=some (p,x))(V:y=bw p r.tk)(R:r.kn=(aR p r.tk).length):
 aK G {s with T:=bI s.T n r y true,ths:=s.ths.set k {th with cur:=gY,run:=false}} (λm=>ex m\/(fE s.T n r=true/\m=dL n)):=by
 have N:=A.t.over E (x:=y) (here:=true) P V (.inl ⟨rfl,L,R⟩);have z:=oQ A.t E y true;refine A.turnT N Q F F (λm o=>?_) (λm r' d e u=>?_) (λm r' d e=>?_) (λm r' d e u=>?_) (λb=>by cases b) (λb=>by cases b)
 ·rcases z m with⟨_,b⟩|⟨_,_,_,q,_,b⟩|⟨_,_,b⟩
  ·rw[b] at o;cases o
  ·rw[b] at o;cases o
  ·rw[b] at o;exact⟨o,Iff.rfl⟩
 ·rcases z m with⟨_,b⟩|⟨_,C,v,q,l,b⟩|⟨_,_,b⟩
  ·rw[b] at d;cases d;simp only at e;omega
  ·rw[b] at d
   cases d
   refine⟨q,l,?_,λg=>u (.inl g)⟩
   by_cases H:q.sa=3/\q.opn-1=0
   ·exact absurd (.inr ⟨by subst v;rw[jt C l];simp[H],v⟩) u
   ·simp only[fz,yb H]
  ·rw[b] at d;exact⟨r',d,rfl,λg=>u (.inl g)⟩
 ·rcases z m with⟨_,b⟩|⟨w,C,v,q,l,b⟩|⟨w,_,b⟩
  ·rw[b] at d;cases d;simp only at e;omega
  ·rw[b] at d
   cases d
   refine .inr ⟨λ_ g=>w (by rw[<-g,D]),q,l,?_⟩;simp only[fz] at e;split at e
   ·omega
   ·exact e
  ·rw[b] at d;exact .inr ⟨λ_ g=>w (by rw[<-g,D]),r',d,e⟩
 ·rcases z m with⟨K,b⟩|⟨w,C,v,q,l,b⟩|⟨_,_,b⟩
  ·exact absurd (by rw[D,K]) (u S)
  ·rw[d] at l
   cases l
   refine⟨_,b,?_⟩;simp only[fz];rw[yb (by omega)];exact e
  ·rw[b];exact⟨r',d,e⟩
theorem aK.run_(o:aK G s ex)(u:s.ths[k]?=some th)(A:th.act=none)(E:th.run=true):aK G (fi s k) ex:=by
 obtain⟨r,p,x,f,w,N,K,ad,a5,l,al⟩:=o.current u E;have F:=jX (p:=p) l.ok l.res;unfold fi;rw[PS.th_eq u,w,a5];simp only;rw[al];generalize v:th.cur=n at*
 cases hs:(f.run1 p).2 with
 |more=>
  simp only;obtain⟨H,Q,R,S,a6⟩:=F.mo hs
  have P:=o.t.goes w N (.inl rfl) (f:=(f.run1 p).1) (λd=>by omega) (λa3 a4 Z C D X Y=>by
   rw[K] at C
   cases C
   exact⟨F.M.trans l.M,F.fn.trans l.fn,R,by rw[S];exact l.kd,H,by rw[Q];exact l.fin_⟩)
  rw[js u];refine o.turnT P u A A (λm g=>?_) (λm r' b e z=>?_) (λm r' b e=>?_) (λm r' b e z=>?_) (λ_=>?_) (λ_=>.inl ⟨E,rfl⟩)
  ·rw[fN] at g
   split at g
   ·cases g
   ·exact⟨g,Iff.rfl⟩
  ·rw[fN] at b
   split at b
   ·cases b;simp only at e;omega
   ·exact⟨r',b,rfl,z⟩
  ·rw[fN] at b
   split at b
   ·rename_i d;exact .inl ⟨E,by rw[v,d]⟩
   ·rename_i d;exact .inr ⟨λ_ D=>d (by rw[<-D,v]),r',b,e⟩
  ·rw[fN]
   split
   ·exact⟨_,rfl,rfl⟩
   ·exact⟨r',b,e⟩
  ·rw[v,fN,yf rfl]
   exact⟨_,rfl,rfl⟩
 |fork t=>
  simp only;refine o.fork u A E v w N K ad l ?_;rw[<-hs];exact F
 |join=>
  simp only;obtain⟨H,Q,R,S,a6,a7,az⟩:=F.join hs;have a1:kz p r (f.run1 p).1:=⟨F.M.trans l.M,F.fn.trans l.fn,R,by rw[S];exact l.kd,H,by rw[Q];exact l.fin_⟩
  by_cases a2:r.opn≠0
  ·rw[yf a2]
   have am:0<r.opn:=by have:=(o.t.row n r w).opn;omega
   have P:=o.t.goes w N (.inr rfl) (f:=(f.run1 p).1) (λ_=>⟨am,a7⟩) (λa3 a4 Z C D X Y=>by
    rw[K] at C
    cases C
    exact a1)
   refine o.turnT P u A A (λm g=>?_) (λm r' b e z=>?_) (λm r' b e=>?_) (λm r' b e z=>?_) (λd=>by cases d) (λd=>by cases d)
   ·rw[fN] at g
    split at g
    ·cases g
    ·exact⟨g,Iff.rfl⟩
   ·rw[fN] at b
    split at b
    ·cases b;simp only at e;omega
    ·exact⟨r',b,rfl,z⟩
   ·rw[fN] at b
    split at b
    ·cases b;simp only at e;omega
    ·rename_i d;exact .inr ⟨λ_ D=>d (by rw[<-D,v]),r',b,e⟩
   ·rw[fN,yb (λd=>z E (by rw[v,d]))]
    exact⟨r',b,e⟩
  ·rw[yb a2]
   have ai:r.opn=0:=by omega
   have a8:=qY o.t w ai K (f.run1 p).1.waitsOf (f.run1 p).1 (λi a9=>by
    have:=(Yg.1 a9).1;rw[zw,S,l.kd] at this;exact this) a1
   have P:=o.t.goes w N (.inl rfl) (f:=bU s.T.rw n (f.run1 p).1.waitsOf (f.run1 p).1) (λd=>by omega) (λa3 a4 Z C D X Y=>by
    rw[K] at C
    cases C
    exact a8.1)
   rw[js u];refine o.turnT P u A A (λm g=>?_) (λm r' b e z=>?_) (λm r' b e=>?_) (λm r' b e z=>?_) (λ_=>?_) (λ_=>.inl ⟨E,rfl⟩)
   ·rw[fN] at g
    split at g
    ·cases g
    ·exact⟨g,Iff.rfl⟩
   ·rw[fN] at b
    split at b
    ·cases b;simp only at e;omega
    ·exact⟨r',b,rfl,z⟩
   ·rw[fN] at b
    split at b
    ·rename_i d;exact .inl ⟨E,by rw[v,d]⟩
    ·rename_i d;exact .inr ⟨λ_ D=>d (by rw[<-D,v]),r',b,e⟩
   ·rw[fN]
    split
    ·exact⟨_,rfl,rfl⟩
    ·exact⟨r',b,e⟩
   ·rw[v,fN,yf rfl]
    exact⟨_,rfl,rfl⟩
 |done y=>
  simp only;obtain⟨H,Q,R⟩:=F.done y hs;rw[l.fin_] at H;have av:y=bw p r.tk:=(Prod.mk.inj H).1.symm
  have ab:r.kn=(aR p r.tk).length:=by
   have b:=(Prod.mk.inj H).2;have e:=l.knle;have:=yl List.length b;simp at this;omega
  have ar:=oQ o.t w y true;have a0:=o.done_mid u A E v w N K av ab
  by_cases L:fE s.T n r=true
  ·rw[yf L]
   refine(a0.push (k:=k) (th:={th with cur:=gY,run:=false}) (bH (gS u).1) A (dL n) (λr' b e=>?_)).exMono (λm g=>g.1.resolve_right (λd=>g.2 d.2));have V:(bI s.T n r y true).rw (dL n)=some r':=b
   rcases ar (dL n) with⟨_,d⟩|⟨_,W,aw,q,an,d⟩|⟨_,W,d⟩
   ·rw[d] at V;cases V;simp only at e;omega
   ·rw[d] at V
    cases V
    rw[jt W an] at L;simp only[fz,yf (yD L)] at e;omega
   ·cases hff:r.fk with
    |true=>exact absurd rfl (W hff)
    |false=>simp[fE,hff] at L
  ·rw[yb L]
   exact a0.exMono (λm g=>g.resolve_right (λd=>L d.1))
theorem aK.unqueue(b:aK G s ex)(y:s.queue≠[]):aK G {s with queue:=s.queue.tail} (λm=>ex m\/m=s.queue.headD gY):=by
 obtain⟨a,l,o⟩:=List.exists_cons_of_ne_nil y;refine⟨b.t,b.progs,b.many,b.kinds,b.nlen,b.vals,b.nnodup,λl th w=>⟨(b.th l th w).run,(b.th l th w).free,(b.th l th w).act⟩,b.one,b.acts,λm r u v e=>?_,λm r u v e=>?_,b.runs,b.outN,b.known,b.roots⟩
 ·rcases b.ready m r u v (λq=>e (.inl q)) with d|d
  ·rw[o] at d e
   rcases yG.1 d with g|g
   ·exact absurd (.inr g) e
   ·exact .inl (by simp only[o,List.tail_cons];exact g)
  ·exact .inr d
 ·rcases b.wakes m r u v (λq=>e (.inl q)) with d|d
  ·rw[o] at d e
   rcases yG.1 d with g|g
   ·exact absurd (.inr g) e
   ·exact .inl (by simp only[o,List.tail_cons];exact g)
  ·exact .inr d
theorem aK.step(t:aK G s ex)(Z:k<s.ths.length){R:Nat}(g:dt s k R s'):aK G s' ex:=by
 have ad:=fK (d:=mB) Z;have u:s.ths[k]?=some (s.th k):=ad;unfold dt at g
 cases hact:(s.th k).act with
 |none=>
  rw[hact] at g;simp only at g
  cases hr:(s.th k).run with
  |true=>rw[yf hr] at g;rw[g];exact t.run_ u hact hr
  |false=>rw[yb (by rw[hr];simp)] at g;rw[g];exact t.pop u hact hr
 |some av=>
  obtain⟨j,i⟩:=av;rw[hact] at g;obtain⟨x,a,s1,K,g⟩:=g
  by_cases q:(pstep x.d s.C a).what=0
  ·rw[yf q] at g
   rw[g];exact t.dstep u hact K q
  ·rw[yb q] at g
   rw[g];obtain⟨D,a9⟩:=t.dend u hact K q;obtain⟨a2,a8,Q,ws',e,o,Y,b1⟩:=K;obtain⟨b2,aw,T,V,aE,l⟩:=(t.th k _ u).act j i hact;rw[a2] at T
   cases T
   rw[a8] at V
   cases V
   have a5:s1.th k=s.th k:=by rw[e];rfl
   have F:s1.ths=s.ths:=by rw[e]
   have S:s1.queue=s.queue:=by rw[e]
   have a4:s1.nms=s.nms:=by rw[e]
   unfold jg;simp only[a5,F,S,a4];obtain⟨w,v⟩:=eX (s1.setTh k {s.th k with act:=none,kn:=0});rw[<-v] at D a9 ⊢;have L:w.ths[k]?=some {s.th k with act:=none,kn:=0}:=by rw[v];simp only[PS.setTh];rw[F];exact bH Z
   have a0:w.queue=s.queue:=by rw[v];exact S
   have a6:w.ths.length=s.ths.length:=by rw[v];simp only[PS.setTh,yI,F]
   by_cases z:(pstep x.d s.C a).what=1
   ·rw[yf z]
    exact D.exMono λm o=>o.resolve_right λe=>by omega
   ·rw[yb z]
    have ai:a.kn≠0:=λaz=>by
     rcases Y with⟨e,_⟩|⟨_,⟨_,e,_⟩|⟨e,_⟩|⟨e,_⟩|⟨e,_⟩|⟨e,_⟩⟩
     ·exact q e
     ·exact z e
     all_goals omega
    have N:(s.th k).run=false:=by
     rcases l with l|l|l
     ·exact absurd l.2.2 ai
     ·exact l.2.2.2
     ·exact l.2.2.2.1
    by_cases A:(pstep x.d s.C a).what=2
    ·rw[yf A]
     refine(D.begin_ L rfl N _).exMono λm o=>?_
     rcases o with⟨o|⟨_,o⟩,ar⟩
     ·exact o
     ·exact absurd (by rw[yc,o];rfl) ar
    ·rw[yb A]
     have E:aK G w ex:=D.exMono λm o=>o.resolve_right λe=>A e.1
     by_cases H:(s.th k).kn=2/\s.queue≠[]
     ·rw[yf H]
      have a1:=E.unqueue (by rw[a0];exact H.2);rw[a0] at a1;exact(a1.begin_ L rfl N (s.queue.headD gY)).exMono λm o=>o.1.resolve_right o.2
     ·rw[yb H]
      by_cases W:(s.th k).kn=2/\1<s.ths.length
      ·rw[yf W]
       obtain⟨b,X⟩:=eX (R % (s.ths.length-1));have b0:b<s.ths.length-1:=by rw[X];exact Yj _ (by omega)
       rw[<-X];have an:=Yj (k+(1+b)) (show 0<s.ths.length by omega);refine E.steal L rfl N (by rw[E.nlen,a6];exact an) (λe=>?_) ?_
       ·rcases zO (k+(1+b)) s.ths.length with am|ab
        ·rw[Nat.mod_eq_of_lt am] at e;omega
        ·rw[Nat.mod_eq_sub_mod ab,Nat.mod_eq_of_lt (by omega)] at e;omega
       ·
        have al:j=k/\a.kn=1:=by
         rcases l with l|l|l
         ·omega
         ·exact⟨l.2.1,l.2.2.1⟩
         ·omega
        have a7:Q= []:=by
         rcases Y with⟨e,_⟩|⟨_,⟨_,e,_⟩|⟨_,e,_⟩|⟨_,_,_,_,e⟩|⟨e,_⟩|⟨e,_⟩⟩
         ·exact absurd e q
         ·exact absurd e z
         ·exact absurd e A
         ·exact e
         ·omega
         ·omega
        obtain⟨y,a3⟩:=eX (⟨x.d,ws',x.acts.set i (pstep x.d s.C a).a,x.on,Q,x.own+(((pstep x.d s.C a).C.length:Int)-s.C.length),x.P,x.c0⟩ :aT)
        have:w.ds[k]?=some y:=by
         rw[v];show s1.ds[k]?=_;rw[e,<-al.1,a3];exact bH (gS a2).1
        rw[PS.dq_eq this,a3];exact a7
      ·rw[yb W]
       exact E
end
def eY(f:Fr):Bool:=f.waits.isSome&&f.kd.any (λc=>!c.given)
def wR(c:Int)(r:aG)(fo:Option Fr):Int:=
 if r.sa=1 then c+31+r.tk.fuel
 else if r.sa=2\/r.sa=3\/r.sa=4 then
  (match fo with
  |none=>c+31
  |some f=>c+31+f.left+(if r.sa=4\/(r.sa=2/\eY f=true) then 1 else 0))
 else if r.sa=5 then c+31 else 0
noncomputable def dU(c:Int)(t:TS)(n:Nm):Int:=
 match t.rw n with
 |none=>0
 |some r=>wR c r (t.fm n)
theorem DZ{c:Int}{r:aG}{b:Option Fr}(d:r.sa=1):wR c r b=c+31+r.tk.fuel:=yf d
theorem sg{c:Int}{r:aG}{f:Fr}(b:r.sa=2):wR c r (some f)=c+31+f.left+(if eY f=true then 1 else 0):=by
 unfold wR;rw[yb (by omega),yf (by omega)];simp[b]
theorem FM{c:Int}{r:aG}{f:Fr}(b:r.sa=3):wR c r (some f)=c+31+f.left:=by
 unfold wR;rw[yb (by omega),yf (by omega)];simp[b]
theorem FN{c:Int}{r:aG}{f:Fr}(b:r.sa=4):wR c r (some f)=c+31+f.left+1:=by
 unfold wR;rw[yb (by omega),yf (by omega)];simp[b]
theorem GA{c:Int}{r:aG}{b:Option Fr}(d:r.sa=5):wR c r b=c+31:=by
 unfold wR;rw[yb (by omega),yb (by omega),yf d]
theorem FO{c:Int}{r:aG}{b:Option Fr}(d:r.sa=6):wR c r b=0:=by
 unfold wR;rw[yb (by omega),yb (by omega),yb (by omega)]
theorem fO{c:Int}{t:TS}{n:Nm}{r:aG}(b:t.rw n=some r):dU c t n=wR c r (t.fm n):=by unfold dU;rw[b]
def mu(c:Int)(x:aT):Int:=c*x.L.length+(12*x.P-2*(x.own-4-x.c0))
def bj(s:PS)(k:Nat):Prop:=(s.dq k).L≠[]\/(k=0/\s.queue≠[])
def PS.act(s:PS)(j i:Nat):aC:=(s.dq j).acts.getD i (cQ 0 0)
noncomputable def fA(s:PS)(k:Nat):Int:=
 match (s.th k).act with
 |none=>if bj s k then 10 else 0
 |some y=>
  if (s.th k).kn=1 then bC (s.act y.1 y.2)+(if bj s k then 10 else 0)
  else if (s.th k).kn=2 then(if bj s k then bC (s.act y.1 y.2) else 0)
  else if bj s k then 10+bC (s.act y.1 y.2) else 0
noncomputable def gj(c:Int)(t:TS):Int:=(t.ks.map (dU c t)).sum
def uT(c:Int)(ds:List aT):Int:=(ds.map (mu c)).sum
noncomputable def kq(s:PS):Int:=((List.range s.ths.length).map (fA s)).sum
noncomputable def pot(c B:Int)(s:PS):Int:=10*s.queue.length+gj c s.T+uT c s.ds+kq s+(2*c+60)*(B-s.T.ks.length)
def jC(s:PS)(k:Nat):Prop:=(s.th k).run=true\/((s.th k).act≠none/\(s.th k).kn=1)\/bj s k
def ts(c B:Int)(s:PS)(k:Nat)(s':PS):Prop:=pot c B s'+1<=pot c B s\/(pot c B s'<=pot c B s/\¬jC s k/\∀l,l≠k->jC s l->jC s' l)
section
variable {G:dg}{s s' s1:PS}{ex ex':Nm->Prop}{k j i:Nat}{th th':Th}{n m:Nm}{r:aG}{c B:Int}
theorem sb{α:Type}{f g:α->Int}:∀(l:List α),(∀x∈l,f x<=g x)->(l.map f).sum<=(l.map g).sum
 | [],_=>by simp
 |a :: l,b=>by
  simp only[zc,zH];have:=b a (by simp);have:=sb l λx d=>b x (by simp[d])
  omega
theorem kJ{α:Type}{f g:α->Int}{a:α}:∀(l:List α),l.Nodup->a∈l->(∀x∈l,x≠a->g x<=f x)->(l.map g).sum<=(l.map f).sum-f a+g a
 | [],_,e,_=>by simp at e
 |b :: l,y,v,e=>by
  simp only[zc,zH];obtain⟨t,u⟩:=List.nodup_cons.1 y
  by_cases d:b=a
  ·subst d
   have:=sb (f:=g) (g:=f) l λx o=>e x (by simp[o]) (λd=>t (by rw[<-d];exact o))
   omega
  ·have w:a∈l:=by
    rcases yG.1 v with q|q
    ·exact absurd q.symm d
    ·exact q
   have:=kJ l u w λx o z=>e x (by simp[o]) z
   have:=e b (by simp) d;omega
theorem Cc{α:Type}{f g:α->Int}{a b:α}(l:List α)(o:l.Nodup)(v:a∈l)(y:b∈l)(w:a≠b)(q:∀x∈l,x≠a->x≠b->g x<=f x):(l.map g).sum<=(l.map f).sum-f a+g a-f b+g b:=by
 have t:=kJ (f:=f) (g:=λx=>if x=b then g b else f x) l o y λx _ e=>by simp only[yb e];exact yE _
 have u:=kJ (f:=λx=>if x=b then g b else f x) (g:=g) l o v λx e z=>by
  by_cases d:x=b
  ·subst d;simp
  ·simp only[yb d];exact q x e z d
 simp only[yb w] at u;simp only[yR] at t;omega
theorem qC{ds:List aT}{x y:aT}(b:ds[j]?=some x):uT c (ds.set j y)=uT c ds-mu c x+mu c y:=mU (mu c) ds j x y b
theorem oZ{t t':TS}(e:t'.ks=t.ks)(g:t.ks.Nodup)(d:n∈t.ks)(b:∀m,m≠n->dU c t' m<=dU c t m):gj c t'<=gj c t-dU c t n+dU c t' n:=by
 unfold gj;rw[e];exact kJ _ g d λx _ l=>b x l
theorem mA(e:s'.ths.length=s.ths.length)(d:k<s.ths.length)(b:∀l,l<s.ths.length->l≠k->fA s' l<=fA s l):kq s'<=kq s-fA s k+fA s' k:=by
 unfold kq;rw[e];exact kJ _ List.nodup_range (zw.2 d) λx o g=>b x (zw.1 o) g
theorem vM(d:s'.ths.length=s.ths.length)(b:∀l,l<s.ths.length->fA s' l<=fA s l):kq s'<=kq s:=by
 unfold kq;rw[d];exact sb _ λx e=>b x (zw.1 e)
theorem kT{x:aT}{a:aC}(d:s.ds[j]?=some x)(b:x.acts[i]?=some a):s.act j i=a:=by
 unfold PS.act;rw[PS.dq_eq d];exact kV b
theorem aK.rank_pos(e:aK G s ex)(o:s.ths[k]?=some th)(l:th.act=some (j,i)):1<=bC (s.act j i):=by
 obtain⟨x,a,b,d,g,q⟩:=(e.th k th o).act j i l;rw[kT b d];exact(uF (e.many.each j x b) d g (e.kinds x (yh b) a (yh d))).1
theorem aK.wTh_le(q:aK G s ex){l:Nat}(u:l<s.ths.length)(g:s'.th l=s.th l)(o:∀j i,(s.th l).act=some (j,i)->s'.act j i=s.act j i)(e:bj s' l->bj s l):fA s' l<=fA s l:=by
 have t:=fK (d:=mB) u;unfold fA;rw[g]
 cases ha:(s.th l).act with
 |none=>
  simp only;split
  ·rename_i b;rw[yf (e b)];exact yE _
  ·split<;>omega
 |some y=>
  obtain⟨j,i⟩:=y;simp only;rw[o j i ha];have v:=q.rank_pos t ha;split
  ·split
   ·rename_i b;rw[yf (e b)];exact yE _
   ·split<;>omega
  ·split
   ·split
    ·rename_i b;rw[yf (e b)];exact yE _
    ·split<;>omega
   ·split
    ·rename_i b;rw[yf (e b)];exact yE _
    ·split<;>omega
theorem aK.act_other(w:aK G s ex){l:Nat}(A:l<s.ths.length){y x:aT}(v:s.ds[j]?=some x)(u:s'.ds=s.ds.set j y)(C:∀b a,(s.th l).act=some (j,b)->x.acts[b]?=some a->y.acts[b]?=some a):
 ∀e b,(s.th l).act=some (e,b)->s'.act e b=s.act e b:=by
 intro e b t;have z:=fK (d:=mB) A;obtain⟨D,a,g,o,E,F⟩:=(w.th l _ z).act e b t;rw[kT g o]
 by_cases q:e=j
 ·subst q
  rw[v] at g
  cases g
  exact kT (x:=y) (by rw[u];exact bH (gS v).1) (C b a t o)
 ·exact kT (x:=D) (by rw[u,dG q];exact g) o
theorem pQ{x y:aT}(d:s.ds[j]?=some x)(b:s'.ds=s.ds.set j y):s'.dq j=y:=PS.dq_eq (by rw[b];exact bH (gS d).1)
theorem lU{y:aT}{l:Nat}(b:s'.ds=s.ds.set j y)(d:l≠j):s'.dq l=s.dq l:=by
 unfold PS.dq;rw[b,yc,yc,dG d]
theorem jG(d:k<s.ths.length)(b:s'.ths=s.ths.set k th'):s'.th k=th':=PS.th_eq (by rw[b];exact bH d)
theorem gF{l:Nat}(b:s'.ths=s.ths.set k th')(d:l≠k):s'.th l=s.th l:=by
 unfold PS.th;rw[b,yc,yc,dG d]
theorem iM(b:(s.th k).act=none):fA s k=if bj s k then 10 else 0:=by
 unfold fA;rw[b]
theorem vu(b:(s.th k).act=none):0<=fA s k/\fA s k<=10:=by
 rw[iM b];split<;>omega
theorem aK.pot_begin(g:aK G s ex)(u:s.ths[k]?=some th)(A:th.act=none)(n:Nm):pot c B (dX s k n)<=pot c B s:=by
 have K:k<s.ths.length:=(gS u).1;unfold dX
 cases hn:s.T.rw n with
 |none=>exact yE _
 |some r=>
  simp only
  by_cases b:r.sa=1\/r.sa=4
  ·rw[yf b]
   obtain⟨p,x,S,_,D⟩:=(g.t.row n r hn).node;rw[PS.th_eq u];obtain⟨s',d⟩:=eX ({s with T:=gV (s.prog n.job) s.T n r,ths:=s.ths.set k {th with cur:=n,run:=true}}:PS);rw[<-d];have o:s'.ths=s.ths.set k {th with cur:=n,run:=true}:=by rw[d]
   have e:s'.T=gV (s.prog n.job) s.T n r:=by rw[d]
   have q:s'.ds=s.ds:=by rw[d]
   have y:s'.queue=s.queue:=by rw[d]
   have z:s'.T.ks=s.T.ks:=by rw[e];rfl
   have C:∀l,bj s' l↔bj s l:=by intro l;unfold bj PS.dq;rw[q,y]
   have Q:kq s'<=kq s:=by
    refine vM (by rw[o,yI]) λl L=>?_
    by_cases w:l=k
    ·subst w
     have:(s'.th l).act=none:=by rw[jG K o];exact A
     rw[iM this,iM (by rw[PS.th_eq u];exact A)];simp only[C];exact yE _
    ·exact g.wTh_le L (gF o w) (λj i _=>by unfold PS.act PS.dq;rw[q]) (C l).1
   have R:gj c s'.T<=gj c s.T:=by
    have v:n∈s.T.ks:=(g.t.ks n).2 (by rw[hn];simp)
    have:=oZ (c:=c) (n:=n) z g.t.nodup v λm v=>by
     rw[e];simp only[dU,gV,ag _ _ v];exact yE _
    have V:dU c s'.T n<=dU c s.T n:=by
     have N:s'.T.rw n=some {r with sa:=2}:=by rw[e];exact ay _ _ _
     have H:s'.T.fm n=some ((s.T.fm n).getD (Fr.begun (s.prog n.job) r.tk)):=by rw[e];exact ay _ _ _
     rw[fO N,fO hn,H,sg rfl]
     rcases b with b|b
     ·have F:=(D.idle (.inl b)).2
      rw[DZ b,F];simp[eY,Fr.begun]
     ·obtain⟨f,E,P,_⟩:=D.runs (.inr (.inr b))
      rw[E,FN b];simp only[zU];split<;>omega
    omega
   unfold pot;rw[q,y,z];omega
  ·rw[yb b]
   exact yE _
theorem aK.pot_push(q:aK G s ex)(e:s.ths[k]?=some th)(D:th.act=none)(n:Nm):pot c B (eJ s k n)<=pot c B s+(c+29):=by
 have A:k<s.ths.length:=(gS e).1;have t:=q.dqk e;unfold eJ;rw[PS.th_eq e];obtain⟨v,hv⟩:=eX (((eT s.nms n).1:Int):Int);rw[<-hv];obtain⟨s',b⟩:=eX ({s with nms:=(eT s.nms n).2,ds:=s.ds.set k (eU (s.dq k) v),ths:=s.ths.set k {th with act:=some (k,(s.dq k).acts.length),kn:=1}}:PS);rw[<-b];have o:s'.ths=s.ths.set k {th with act:=some (k,(s.dq k).acts.length),kn:=1}:=by rw[b]
 have C:s'.T=s.T:=by rw[b]
 have d:s'.ds=s.ds.set k (eU (s.dq k) v):=by rw[b]
 have w:s'.queue=s.queue:=by rw[b]
 have F:∀l,l≠k->(bj s' l↔bj s l):=by intro l g;unfold bj;rw[lU d g,w]
 have L:=mA (s:=s) (s':=s') (k:=k) (by rw[o,yI]) A λl g u=>
  q.wTh_le g (gF o u) (q.act_other g t d (λR a _ z=>by simp only[eU];rw[yi (gS z).1];exact z)) (F l u).1
 have N:=(vu (s:=s) (k:=k) (by rw[PS.th_eq e];exact D)).1
 have P:fA s' k<=17:=by
  have H:s'.th k= {th with act:=some (k,(s.dq k).acts.length),kn:=1}:=jG A o;have E:s'.act k (s.dq k).acts.length=cQ 0 v:=kT (x:=eU (s.dq k) v) (by rw[d];exact bH (gS t).1) (by simp[eU]);unfold fA;rw[H];simp only[E,yR];simp only[bC,cQ];split<;>omega
 have K:=qC (c:=c) (y:=eU (s.dq k) v) t
 have Q:mu c (eU (s.dq k) v)=mu c (s.dq k)+c+12:=by
  simp only[mu,eU,yk,List.length_singleton];rw[Int.natCast_add,Int.mul_add];simp;omega
 unfold pot;rw[d,w,C];omega
end
section
variable {G:dg}{s s' s1:PS}{ex ex':Nm->Prop}{k j i:Nat}{th th':Th}{n m:Nm}{r:aG}{c B:Int}{p:List ah}{f:Fr}
theorem rg{o:bK}{st:Option iX}{f':Fr}(d:f.joins o=(f',st)):(st=none->f'.waits=none/\f'.left=f.left)/\(st=some .join->f'= {f with waits:=some o}/\f.os.any (λc=>!c.given)=true)/\st≠some .more:=by
 unfold Fr.joins at d;split at d
 ·rename_i e
  cases d
  exact⟨λb=>(by cases b),λ_=>⟨rfl,e⟩,by simp⟩
 ·simp only at d
  split at d
  ·cases d;exact⟨λb=>(by cases b),λb=>(by cases b),by simp⟩
  ·split at d
   ·cases d;exact⟨λb=>(by cases b),λb=>(by cases b),by simp⟩
   ·cases d;exact⟨λ_=>⟨rfl,rfl⟩,λb=>(by cases b),by simp⟩
theorem sG(b:f.os.any (λc=>!c.given)=true):f.kd.any (λc=>!c.given)=true:=by
 obtain⟨c,d,e⟩:=zT.1 b;exact zT.2 ⟨c,List.mem_of_mem_drop d,e⟩
theorem sO(u:f.waits=none):((cz (f.step p)).2=.more->(cz (f.step p)).1.waits=none)/\((cz (f.step p)).2=.join->(cz (f.step p)).1.left<f.left/\eY (cz (f.step p)).1=true):=by
 unfold Fr.step
 by_cases e:f.left=0
 ·rw[yf e]
  exact⟨λb=>(by cases b),λb=>(by cases b)⟩
 ·rw[yb e]
  simp only;split
  ·unfold Fr.forks
   split
   ·exact⟨λb=>(by cases b),λb=>(by cases b)⟩
   ·split
    ·exact⟨λb=>(by cases b),λb=>(by cases b)⟩
    ·exact⟨λb=>(by cases b),λb=>(by cases b)⟩
  ·split
   ·obtain⟨f',st,d⟩ :∃f' st,Fr.joins {f with left:=f.left-1,at_:=f.at_+1} (bB p f.fn f.at_)=(f',st):=⟨_,_,rfl⟩
    obtain⟨g,l,o⟩:=rg d;rw[d]
    cases st with
    |none=>exact⟨λ_=>(g rfl).1,λb=>(by cases b)⟩
    |some st=>
     refine⟨λb=>?_,λb=>?_⟩
     ·simp only[cz,zU] at b;subst b;exact absurd rfl o
     ·simp only[cz,zU] at b
      subst b;obtain⟨q,t⟩:=l rfl;subst q;refine⟨?_,?_⟩
      ·simp only[cz];omega
      ·simp only[cz,eY,Option.isSome_some,Bool.true_and]
       exact sG t
   ·split
    ·exact⟨λb=>(by cases b),λb=>(by cases b)⟩
    ·exact⟨λ_=>u,λb=>(by cases b)⟩
theorem B6:((f.run1 p).2=.more->(f.run1 p).1.waits=none)/\((f.run1 p).2=.join->((f.run1 p).1.left<f.left\/eY f=true)/\eY (f.run1 p).1=true):=by
 unfold Fr.run1
 cases hw:f.waits with
 |none=>
  simp only;obtain⟨d,e⟩:=sO (p:=p) hw;exact⟨d,λb=>⟨.inl (e b).1,(e b).2⟩⟩
 |some o=>
  simp only;obtain⟨f',st,t⟩ :∃f' st,f.joins o=(f',st):=⟨_,_,rfl⟩
  obtain⟨d,e,u⟩:=rg t;rw[t]
  cases st with
  |none=>
   simp only;obtain⟨l,g⟩:=sO (p:=p) (d rfl).1;exact⟨l,λb=>⟨.inl (by have:=(g b).1;have:=(d rfl).2;omega),(g b).2⟩⟩
  |some st=>
   simp only;refine⟨λb=>?_,λb=>?_⟩
   ·subst b;exact absurd rfl u
   ·subst b
    obtain⟨l,g⟩:=e rfl;have q:=sG g;subst l;exact⟨.inr (by simp only[eY,hw,Option.isSome_some,Bool.true_and];exact q),by simp only[eY,Option.isSome_some,Bool.true_and];exact q⟩
theorem km(rows:Nm->Option aG)(n:Nm):∀(l:List Nat) (f:Fr),(bU rows n l f).left=f.left/\(bU rows n l f).kd.length=f.kd.length
 | [],f=>⟨rfl,rfl⟩
 |i :: l,f=>by
  have:=km rows n l (f.give i (kP rows (aH n i)));simp only[bU];rw[this.1,this.2];exact⟨rfl,by simp[Fr.give]⟩
theorem nU(rows:Nm->Option aG)(n:Nm):∀(l:List Nat) (f:Fr) (i:Nat) (c:cZ),(bU rows n l f).kd[i]?=some c->(i∈l\/∃c',f.kd[i]?=some c'/\c'.given=true)->c.given=true
 | [],f,i,c,d,b=>by
   rcases b with b|⟨c',e,o⟩
   ·simp at b
   ·simp only[bU] at d
    rw[d] at e
    cases e
    exact o
 |a :: l,f,i,c,d,b=>by
  simp only[bU] at d;refine nU rows n l _ i c d ?_
  by_cases g:i=a
  ·subst g
   have t:i<f.kd.length:=by
    have:=(gS d).1;rw[(km rows n l _).2] at this
    simpa[Fr.give] using this
   exact .inr ⟨_,by simp only[Fr.give];exact bH t,rfl⟩
  ·rcases b with b|⟨c',e,o⟩
   ·rcases yG.1 b with q|q
    ·exact absurd q g
    ·exact .inl q
   ·exact .inr ⟨c',by simp only[Fr.give];rw[dG g];exact e,o⟩
theorem qZ(rows:Nm->Option aG)(n:Nm)(f:Fr):eY (bU rows n f.waitsOf f)=false:=by
 unfold eY;rw[Bool.and_eq_false_iff];refine .inr ?_;rw[zI];intro c e;obtain⟨i,b⟩:=yF e
 have d:i<f.kd.length:=by
  have:=(gS b).1;rw[(km rows n _ _).2] at this;exact this
 have:=nU rows n f.waitsOf f i c b (by
  cases hg:(f.kd.getD i ⟨0,true,⟨0,0⟩⟩).given with
  |true=>exact .inr ⟨_,fK d,hg⟩
  |false=>exact .inl (Yg.2 ⟨zw.2 d,by rw[hg];rfl⟩))
 simp[this]
theorem aK.pot_turn(v:aK G s ex)(q:s.ths[k]?=some th)(w:th.act=none)(y:th'.act=none)(T':TS):
 pot c B {s with T:=T',ths:=s.ths.set k th'}<=pot c B s-gj c s.T+gj c T'-(2*c+60)*(T'.ks.length-s.T.ks.length):=by
 have z:k<s.ths.length:=(gS q).1;obtain⟨s',b⟩:=eX ({s with T:=T',ths:=s.ths.set k th'}:PS);rw[<-b];have d:s'.ths=s.ths.set k th':=by rw[b]
 have e:s'.ds=s.ds:=by rw[b]
 have o:s'.queue=s.queue:=by rw[b]
 have u:s'.T=T':=by rw[b]
 have t:∀l,bj s' l↔bj s l:=by intro l;unfold bj PS.dq;rw[e,o]
 have C:kq s'<=kq s:=by
  refine vM (by rw[d,yI]) λl A=>?_
  by_cases g:l=k
  ·subst g
   have:(s'.th l).act=none:=by rw[jG z d];exact y
   rw[iM this,iM (by rw[PS.th_eq q];exact w)];simp only[t];exact yE _
  ·exact v.wTh_le A (gF d g) (λj i _=>by unfold PS.act PS.dq;rw[e]) (t l).1
 unfold pot;rw[e,o,u]
 have:(2*c+60)*(B-T'.ks.length)=(2*c+60)*(B-s.T.ks.length)-(2*c+60)*(T'.ks.length-s.T.ks.length):=by
  rw[<-Int.mul_sub]
  congr 1
  omega
 omega
theorem sa(b:cA G s.T)(g:s.T.rw n=some r){st:Nat}{f:Fr}:gj c (iQ s.T n r st f)<=gj c s.T-dU c s.T n+wR c {r with sa:=st} (some f):=by
 have:=oZ (c:=c) (t:=s.T) (t':=iQ s.T n r st f) (n:=n) rfl b.nodup ((b.ks n).2 (by rw[g];simp)) λm e=>by
  simp only[dU,iQ,ag _ _ e];exact yE _
 rw[fO (t:=iQ s.T n r st f) (r:={r with sa:=st}) (ay _ _ _)] at this;have d:(iQ s.T n r st f).fm n=some f:=ay _ _ _;rw[d] at this;exact this
theorem aK.fork_pot(d:aK G s ex)(av:10<=c)(l:s.ths[k]?=some th)(e:th.act=none)(a1:th.run=true){x t:aj}(Q:th.cur=n)(v:s.T.rw n=some r)(w:r.sa=2)(V:G n.job=some (p,x))(aE:bM p x n.M=some r.tk)
 (S:s.T.fm n=some f) (R:kz p r f) (H:lO p f (jB p r.tk r.kn) ((f.run1 p).1,.fork t)):pot c B (i5 s k n r (f.run1 p).1 t)+1<=pot c B s:=by
 obtain⟨F,z,P⟩:=lp d.t v R H;obtain⟨a8,ab,ad,L,ai,al,am,an,N,a9⟩:=H.fork t rfl;have az:r.kn<16:=(dJ F).2.1;have Z:n≠aH n r.kn:=λq=>iy n r.kn q.symm
 have key:∀(b:aG),gj c (bQ s.T n r (f.run1 p).1 b)<=gj c s.T-(c+31+f.left)+(c+31+(f.run1 p).1.left)+wR c b none:=by
  intro b;have X:n∈s.T.ks:=(d.t.ks n).2 (by rw[v];simp);have a0:aH n r.kn ∉ s.T.ks:=λq=>(d.t.ks _).1 q z
  have a3:gj c (bQ s.T n r (f.run1 p).1 b)=(s.T.ks.map (dU c (bQ s.T n r (f.run1 p).1 b))).sum+dU c (bQ s.T n r (f.run1 p).1 b) (aH n r.kn):=by
   unfold gj;have:(bQ s.T n r (f.run1 p).1 b).ks=s.T.ks++ [aH n r.kn]:=rfl;rw[this,yS,List.sum_append];simp
  have a4:=kJ (f:=dU c s.T) (g:=dU c (bQ s.T n r (f.run1 p).1 b)) s.T.ks d.t.nodup X λm W Y=>by
   have:m≠aH n r.kn:=λq=>a0 (by rw[<-q];exact W)
   simp only[dU,bQ,ag _ _ this,ag _ _ Y];exact yE _
  have a5:dU c (bQ s.T n r (f.run1 p).1 b) n=c+31+(f.run1 p).1.left:=by
   rw[fO (r:={r with opn:=r.opn+(if b.sa=6 then 0 else 1),kn:=r.kn+1}) (by rw[jh,yb Z,yf rfl])];have:(bQ s.T n r (f.run1 p).1 b).fm n=some (f.run1 p).1:=ay _ _ _;rw[this,sg (by exact w)]
   have a2:eY (f.run1 p).1=false:=by
    unfold eY;have u:(f.run1 p).1.waits=none:=L;rw[u];rfl
   rw[a2];simp
  have a6:dU c (bQ s.T n r (f.run1 p).1 b) (aH n r.kn)=wR c b none:=by
   rw[fO (r:=b) (by rw[jh,yf rfl])];have:(bQ s.T n r (f.run1 p).1 b).fm (aH n r.kn)=s.T.fm (aH n r.kn):=ag _ _ (iy _ _);rw[this,d.t.none_ _ z]
  have a7:c+31+f.left<=dU c s.T n:=by
   rw[fO v,S,sg w];split<;>omega
  unfold gj at*;omega
 have C:∀b,((bQ s.T n r (f.run1 p).1 b).ks.length:Int)-s.T.ks.length=1:=by
  intro b;have:(bQ s.T n r (f.run1 p).1 b).ks=s.T.ks++ [aH n r.kn]:=rfl;rw[this];simp;omega
 have aw:((f.run1 p).1.left:Int)+t.fuel+1<=f.left:=by
  have:(f.run1 p).1.left+t.fuel+1<=f.left:=N;omega
 unfold i5
 cases hkn:s.known (aH n r.kn) with
 |some y=>
  simp only;have:=key ⟨t,6,0,y,true,0,false⟩;rw[FO rfl] at this;rw[js l];have o:=d.pot_turn (c:=c) (B:=B) l e e (bQ s.T n r (f.run1 p).1 ⟨t,6,0,y,true,0,false⟩);rw[C] at o;omega
 |none=>
  simp only
  by_cases u:s.away (aH n r.kn)=true
  ·rw[yf u]
   have:=key ⟨t,5,0,⟨0,0⟩,true,0,false⟩;rw[GA rfl] at this;rw[js l];have o:=d.pot_turn (c:=c) (B:=B) l e e (bQ s.T n r (f.run1 p).1 ⟨t,5,0,⟨0,0⟩,true,0,false⟩);rw[C] at o;omega
  ·rw[yb u]
   have D:=key ⟨t,1,0,⟨0,0⟩,true,0,false⟩;rw[DZ rfl] at D;have o:=d.pot_turn (c:=c) (B:=B) l e e (bQ s.T n r (f.run1 p).1 ⟨t,1,0,⟨0,0⟩,true,0,false⟩);rw[C,<-js l] at o;obtain⟨K,A⟩:=eX ({s with T:=bQ s.T n r (f.run1 p).1 ⟨t,1,0,⟨0,0⟩,true,0,false⟩}:PS);rw[<-A] at o ⊢
   have ar:pot c B (eJ K k (aH n r.kn))<=pot c B K+(c+29):=by
    have E:=d.fork_mid l e a1 Q v w V F z P hkn u;rw[<-A] at E;exact E.pot_push (k:=k) (th:=th) (by rw[A];exact l) e _
   simp only at D;omega
end
section
variable {G:dg}{s s' s1:PS}{ex ex':Nm->Prop}{k j i:Nat}{th th':Th}{n m:Nm}{r:aG}{c B:Int}{p:List ah}{f:Fr}
theorem aK.run_pot(d:aK G s ex)(ar:10<=c)(o:s.ths[k]?=some th)(l:th.act=none)(X:th.run=true):pot c B (fi s k)+1<=pot c B s:=by
 obtain⟨r,p,x,f,u,Q,a2,b2,P,D,b3⟩:=d.current o X;have N:=jX (p:=p) D.ok D.res;obtain⟨b0,b1⟩:=B6 (p:=p) (f:=f);unfold fi;rw[PS.th_eq o,u,P];simp only;rw[b3];generalize a4:th.cur=n at*;have F:dU c s.T n=c+31+f.left+(if eY f=true then 1 else 0):=by rw[fO u,P,sg Q]
 have S:∀st f',((iQ s.T n r st f').ks.length:Int)-s.T.ks.length=0:=λst f'=>by
  have:(iQ s.T n r st f').ks=s.T.ks:=rfl;rw[this];omega
 cases hs:(f.run1 p).2 with
 |more=>
  simp only;obtain⟨E,Z,a0,am,an⟩:=N.mo hs;have e:=sa (c:=c) (st:=2) (f:=(f.run1 p).1) d.t u;rw[F,sg rfl] at e;have b7:eY (f.run1 p).1=false:=by unfold eY;rw[b0 hs];rfl
  rw[b7] at e;have:=d.pot_turn (c:=c) (B:=B) o l l (iQ s.T n r 2 (f.run1 p).1);rw[S] at this;rw[js o];simp at e;have z:(2*c+60)*(0:Int)=0:=Int.mul_zero _;rw[z] at this;split at e<;>omega
 |fork t=>
  simp only;refine d.fork_pot ar o l X a4 u Q a2 b2 P D ?_;rw[<-hs];exact N
 |join=>
  simp only;obtain⟨E,Z,a0,am,an,bf,bk⟩:=N.join hs;obtain⟨v,bo⟩:=b1 hs;have z:(2*c+60)*(0:Int)=0:=Int.mul_zero _
  by_cases a5:r.opn≠0
  ·rw[yf a5]
   have e:=sa (c:=c) (st:=3) (f:=(f.run1 p).1) d.t u;rw[F,FM rfl] at e;have:=d.pot_turn (c:=c) (B:=B) (th':={th with cur:=gY,run:=false}) o l l (iQ s.T n r 3 (f.run1 p).1);rw[S,z] at this
   rcases v with v|v
   ·split at e<;>omega
   ·rw[yf v] at e;omega
  ·rw[yb a5]
   have e:=sa (c:=c) (st:=2) (f:=bU s.T.rw n (f.run1 p).1.waitsOf (f.run1 p).1) d.t u;rw[F,sg rfl,qZ,(km _ _ _ _).1] at e;have:=d.pot_turn (c:=c) (B:=B) o l l (iQ s.T n r 2 (bU s.T.rw n (f.run1 p).1.waitsOf (f.run1 p).1));rw[S,z] at this;rw[js o];simp at e
   rcases v with v|v
   ·split at e<;>omega
   ·rw[yf v] at e;omega
 |done y=>
  simp only;obtain⟨E,Z,a0⟩:=N.done y hs;rw[D.fin_] at E;have b9:y=bw p r.tk:=(Prod.mk.inj E).1.symm
  have aE:r.kn=(aR p r.tk).length:=by
   have H:=(Prod.mk.inj E).2;have R:=D.knle;have:=yl List.length H;simp at this;omega
  have L:=oQ d.t u y true
  have az:((bI s.T n r y true).ks.length:Int)-s.T.ks.length=0:=by
   have:(bI s.T n r y true).ks=s.T.ks:=rfl;rw[this];omega
  have K:∀m,m≠n->(bI s.T n r y true).fm m=s.T.fm m:=λm w=>by simp only[bI];rw[ag _ _ w]
  have a3:n∈s.T.ks:=(d.t.ks n).2 (by rw[u];simp)
  have ab:dU c (bI s.T n r y true) n=0:=by
   rcases L n with⟨_,b⟩|⟨b,_⟩|⟨b,_⟩
   ·rw[fO b,FO rfl]
   ·exact absurd rfl b
   ·exact absurd rfl b
  have a6:=d.pot_turn (c:=c) (B:=B) (th':={th with cur:=gY,run:=false}) o l l (bI s.T n r y true);have z:(2*c+60)*(0:Int)=0:=Int.mul_zero _;rw[az,z] at a6
  by_cases A:fE s.T n r=true
  ·rw[yf A]
   cases hff:r.fk with
   |false=>simp[fE,hff] at A
   |true=>
    obtain⟨i,q,ai,C,ba,bb⟩:=d.t.parent u hff;have V:n≠dL n:=λb=>iy (dL n) i (by rw[<-ai];exact b)
    have a9:=A;rw[jt hff C] at a9;have W:=yD a9
    have b4:(bI s.T n r y true).rw (dL n)=some (fz q):=by
     rcases L (dL n) with⟨b,_⟩|⟨_,_,_,q',a8,b⟩|⟨_,b,_⟩
     ·exact absurd b.symm V
     ·rw[C] at a8;cases a8;exact b
     ·exact absurd rfl (b hff)
    obtain⟨bp,bq,bm,bn,b5⟩:=(d.t.row _ q C).node;obtain⟨bc,aw,_⟩:=b5.runs (.inr (.inl W.1))
    have b8:dU c (bI s.T n r y true) (dL n)=dU c s.T (dL n)+1:=by
     rw[fO b4,fO C,K _ V.symm,aw,FM W.1,FN (by simp only[fz,yf W])]
    have e:gj c (bI s.T n r y true)<=gj c s.T-dU c s.T n+0-dU c s.T (dL n)+(dU c s.T (dL n)+1):=by
     have:=Cc (f:=dU c s.T) (g:=dU c (bI s.T n r y true)) s.T.ks d.t.nodup a3 ((d.t.ks _).2 (by rw[C];simp)) V λm w H R=>by
      rcases L m with⟨b,_⟩|⟨_,_,b,_⟩|⟨_,_,b⟩
      ·exact absurd b H
      ·exact absurd b R
      ·simp only[dU,b,K m H];exact yE _
     rw[ab,b8] at this;exact this
    obtain⟨ad,Y⟩:=eX ({s with T:=bI s.T n r y true,ths:=s.ths.set k {th with cur:=gY,run:=false}}:PS);rw[<-Y] at a6 ⊢;have a1:=d.done_mid o l X a4 u Q a2 b9 aE;rw[<-Y] at a1;have R:pot c B (eJ ad k (dL n))<=pot c B ad+(c+29):=a1.pot_push (k:=k) (th:={th with cur:=gY,run:=false}) (by rw[Y];exact bH (gS o).1) l _;split at F<;>omega
  ·rw[yb A]
   have e:gj c (bI s.T n r y true)<=gj c s.T-dU c s.T n+0:=by
    have:=oZ (c:=c) (t:=s.T) (t':=bI s.T n r y true) (n:=n) rfl d.t.nodup a3 λm w=>by
     rcases L m with⟨b,_⟩|⟨_,av,al,q,a7,b⟩|⟨_,_,b⟩
     ·exact absurd b w
     ·subst al
      have b6:(fz q).sa=q.sa:=by
       rw[jt av a7] at A;simp only[fz];rw[yb (λb=>A (yg b))]
      rw[fO b,fO a7,K _ w];unfold wR;rw[b6];exact yE _
     ·simp only[dU,b,K m w];exact yE _
    rw[ab] at this;exact this
   split at F<;>omega
end
section
variable {G:dg}{s s' s1:PS}{ex ex':Nm->Prop}{k j i:Nat}{th th':Th}{n m:Nm}{r:aG}{c B:Int}{x:aT}{a:aC}
theorem Co{r:ke}{L e:List Int}(b:mX a r L e):(r.what=2->L.length=e.length+1)/\(r.what≠2->e=L):=by
 rcases b with⟨d,_,_,rfl⟩|⟨_,⟨_,d,_,rfl⟩|⟨_,d,rfl⟩|⟨_,d,_,rfl,rfl⟩|⟨_,d,rfl⟩|⟨_,d,_,rfl⟩⟩
 ·exact⟨λb=>by omega,λ_=>rfl⟩
 ·exact⟨λb=>by omega,λ_=>rfl⟩
 ·exact⟨λ_=>by simp,λb=>absurd d b⟩
 ·exact⟨λb=>by omega,λ_=>rfl⟩
 ·exact⟨λ_=>by simp,λb=>absurd d b⟩
 ·exact⟨λb=>by omega,λ_=>rfl⟩
theorem nA(o:∀l,(s.dq l).L= []->(s'.dq l).L= [])(q:s.queue= []->s'.queue= [])(l:Nat):bj s' l->bj s l:=by
 rintro (d|⟨e,g⟩)
 ·exact .inl λb=>d (o l b)
 ·exact .inr ⟨e,λb=>g (q b)⟩
theorem aK.pot_dstep(E:aK G s ex)(S:s.ths[k]?=some th)(a5:th.act=some (j,i))(a3:pi s j i x a s1)(th':Th):
 ∃g,mX a (pstep x.d s.C a) x.L g/\(∀l,bj (s1.setTh k th') l->bj s l)/\(∀l,l≠k->((s1.setTh k th').th l)=s.th l)/\(s1.setTh k th').th k=th'/\
  (pot c B (s1.setTh k th')<=pot c B s-fA s k+fA (s1.setTh k th') k+c*((g.length:Int)-x.L.length)-2*(((pstep x.d s.C a).C.length:Int)-s.C.length))/\
  (s1.setTh k th').act j i=(pstep x.d s.C a).a/\((s1.setTh k th').dq j).L=g/\(∀l,l≠j->(s1.setTh k th').dq l=s.dq l)/\(g=x.L->∀l,(bj (s1.setTh k th') l↔bj s l)):=by
 obtain⟨u,a1,g,ws',b,ad,R,ab⟩:=a3;have W:=tC R;have V:k<s.ths.length:=(gS S).1;generalize pstep x.d s.C a=r at*;obtain⟨y,A⟩:=eX (⟨x.d,ws',x.acts.set i r.a,x.on,g,x.own+((r.C.length:Int)-s.C.length),x.P,x.c0⟩ :aT);rw[<-A] at b;obtain⟨e,z⟩:=eX (s1.setTh k th');rw[<-z];have w:e.ds=s.ds.set j y:=by rw[z,b];rfl
 have D:e.ths=s.ths.set k th':=by rw[z,b];rfl
 have a0:e.T=s.T:=by rw[z,b];rfl
 have N:e.queue=s.queue:=by rw[z,b];rfl
 have Q:y.L=g:=by rw[A]
 have F:e.dq j=y:=pQ u w;have H:∀l,l≠j->e.dq l=s.dq l:=λl t=>lU w t
 have Z:∀l,(s.dq l).L= []->(e.dq l).L= []:=by
  intro l q
  by_cases o:l=j
  ·subst o
   rw[F,Q];rw[PS.dq_eq u] at q;rw[q] at W;exact List.eq_nil_iff_forall_not_mem.2 λv hv=>by simpa using W v hv
  ·rw[H l o];exact q
 have K:∀l,bj e l->bj s l:=nA Z (λb=>by rw[N];exact b)
 have a9:=mA (s:=s) (s':=e) (k:=k) (by rw[D,yI]) V λl t o=>
  E.wTh_le t (gF D o) (E.act_other t u w (λa6 a7 a2 a4=>by
   rw[A];simp only;rw[cJ (λY=>?_)]
   ·exact a4
   ·subst Y
    exact E.acts k l th _ (j,a6) (λb=>o b.symm) S (fK (d:=mB) t) a5 a2)) (K l)
 have a8:=qC (c:=c) (y:=y) u
 have ai:mu c y=mu c x+c*((g.length:Int)-x.L.length)-2*((r.C.length:Int)-s.C.length):=by
  rw[A];simp only[mu];rw[Int.mul_sub c];omega
 refine⟨g,R,K,λl t=>gF D t,jG V D,?_,?_,by rw[F,Q],H,λX l=>⟨K l,?_⟩⟩
 ·unfold pot
  rw[w,a0,N];omega
 ·exact kT (x:=y) (by rw[w];exact bH (gS u).1) (by rw[A];exact dx a1)
 ·refine nA (s:=e) (s':=s) (λl q=>?_) (λb=>by rw[<-N];exact b) l
  by_cases o:l=j
  ·subst o
   rw[F,Q,X] at q;rw[PS.dq_eq u];exact q
  ·rw[H l o] at q;exact q
theorem El(y:aT)(d:s.ds[j]?=some x)(b:s'.ds=s.ds.set j y)(e:y.acts=x.acts++ [a]):s'.act j x.acts.length=a:=
 kT (x:=y) (by rw[b];exact bH (gS d).1) (by rw[e];simp)
theorem aK.pot_newAct(C:aK G s ex)(q:s.ths[k]?=some th)(E:th.act=none){y:aT}{b:aC}{kk:Nat}(o:s.ds[j]?=some x)(Q:y.acts=x.acts++ [b])(R:y.L=x.L)(a6:mu c y=mu c x)(Z:kk≠1)(X:kk=2->bC b=9)
 (u:s'= {s with ds:=s.ds.set j y,ths:=s.ths.set k {th with act:=some (j,x.acts.length),kn:=kk}}) (a0:kk≠2->¬bj s k):ts c B s k s'\/th.run=true:=by
 have N:k<s.ths.length:=(gS q).1;have g:s'.ds=s.ds.set j y:=by rw[u]
 have v:s'.ths=s.ths.set k {th with act:=some (j,x.acts.length),kn:=kk}:=by rw[u]
 have V:s'.T=s.T:=by rw[u]
 have P:s'.queue=s.queue:=by rw[u]
 have Y:s'.dq j=y:=pQ o g
 have S:∀l,(s'.dq l).L=(s.dq l).L:=by
  intro l
  by_cases A:l=j
  ·subst A;rw[Y,R,PS.dq_eq o]
  ·rw[lU g A]
 have z:∀l,bj s' l↔bj s l:=by intro l;unfold bj;rw[S,P]
 have a4:=mA (s:=s) (s':=s') (k:=k) (by rw[v,yI]) N λl t d=>
  C.wTh_le t (gF v d) (C.act_other t o g (λa7 a2 _ H=>by rw[Q,yi (gS H).1];exact H)) (z l).1
 have a3:=qC (c:=c) (y:=y) o;have D:fA s k=if bj s k then 10 else 0:=iM (by rw[PS.th_eq q];exact E)
 have a1:s'.th k= {th with act:=some (j,x.acts.length),kn:=kk}:=jG N v;have W:s'.act j x.acts.length=b:=El y o g Q
 have w:fA s' k=if bj s k then(if kk=2 then bC b else 10+bC b) else 0:=by
  unfold fA;rw[a1];simp only[W,yb Z,z]
  by_cases e:bj s k
  ·simp only[yf e]
  ·simp only[yb e];split<;>rfl
 cases hr:th.run with
 |true=>exact .inr rfl
 |false=>
  refine .inl ?_
  have a5:pot c B s'<=pot c B s-fA s k+fA s' k:=by
   unfold pot;rw[g,V,P];omega
  by_cases e:bj s k
  ·have K:kk=2:=by
    by_cases d:kk=2
    ·exact d
    ·exact absurd e (a0 d)
   refine .inl ?_;rw[yf e] at D w;rw[yf K,X K] at w;omega
  ·rw[yb e] at D w
   refine .inr ⟨by omega,?_,λl t F=>?_⟩
   ·rintro (d|⟨d,_⟩|d)
    ·rw[PS.th_eq q,hr] at d;cases d
    ·rw[PS.th_eq q,E] at d;exact d rfl
    ·exact e d
   ·unfold jC at F ⊢
    rw[gF v t,z];exact F
theorem vh{c:Int}{b L:List Int}(d:L.length=b.length+1):c*((b.length:Int)-L.length)= -c:=by
 have:(b.length:Int)-L.length= -1:=by omega
 rw[this];omega
theorem aK.step_dec(z:aK G s ex)(ce:10<=c)(br:k<s.ths.length){b9:Nat}(v:dt s k b9 s'):ts c B s k s':=by
 have Q:s.ths[k]?=some (s.th k):=fK (d:=mB) br;unfold dt at v
 cases hact:(s.th k).act with
 |none=>
  rw[hact] at v;simp only at v
  cases hr:(s.th k).run with
  |true=>rw[yf hr] at v;rw[v];exact .inl (z.run_pot ce Q hact hr)
  |false=>
   rw[yb (by rw[hr];simp)] at v;rw[v]
   rcases z.pot_newAct (c:=c) (B:=B) (s':=lh s k) (y:=nI (s.dq k)) (b:=cQ 1 0) (kk:=2) Q hact (z.dqk Q) rfl rfl rfl (by omega) (λ_=>rfl) rfl (λe=>absurd rfl e) with u|u
   ·exact u
   ·rw[hr] at u;cases u
 |some cs=>
  obtain⟨j,i⟩:=cs;rw[hact] at v;obtain⟨x,a,s1,X,v⟩:=v;have c9:=z.th k _ Q;obtain⟨dd,cw,bc,bf,bk,g⟩:=c9.act j i hact;have E:=X.hx;have a3:=X.ha;rw[E] at bc
  cases bc
  rw[a3] at bf
  cases bf
  have bn:=z.many.each j x E;have bp:=z.kinds x (yh E) a (yh a3);have d8:=uF bn a3 bk bp;have d5:=BL x.d s.C a;have cb:s.act j i=a:=kT E a3
  have t:fA s k=if (s.th k).kn=1 then bC a+(if bj s k then 10 else 0) else if (s.th k).kn=2 then(if bj s k then bC a else 0) else if bj s k then 10+bC a else 0:=by
   unfold fA;rw[hact];simp only[cb]
  by_cases F:(pstep x.d s.C a).what=0
  ·rw[yf F] at v
   rw[v];have d7:=xn bn a3 bk bp F;obtain⟨c0,V,av,a9,a1,A,aw,ab,az,a2⟩:=z.pot_dstep (c:=c) (B:=B) Q hact X (s.th k);have N:=(sk V F).2
   have cr:s1.setTh k (s.th k)=s1:=by
    obtain⟨_,_,e,_⟩:=X.ex;rw[e];simp only[PS.setTh];rw[qA Q]
   rw[cr] at av a9 a1 A aw ab az a2;have a0:=a2 N
   have Y:fA s1 k=if (s.th k).kn=1 then bC (pstep x.d s.C a).a+(if bj s k then 10 else 0) else if (s.th k).kn=2 then(if bj s k then bC (pstep x.d s.C a).a else 0) else if bj s k then 10+bC (pstep x.d s.C a).a else 0:=by
    unfold fA;rw[a1,hact];simp only[aw,a0]
   rw[N] at A;have H:c*((x.L.length:Int)-x.L.length)=0:=by rw[Int.sub_self,Int.mul_zero]
   rw[H] at A
   by_cases u:(s.th k).kn=1
   ·rw[yf u] at t Y
    exact .inl (by omega)
   ·rw[yb u] at t Y
    by_cases q:bj s k
    ·simp only[yf q] at t Y
     refine .inl ?_;split at t
     ·rename_i w;rw[yf w] at Y;omega
     ·rename_i w;rw[yb w] at Y;omega
    ·simp only[yb q] at t Y
     have aE:fA s k=0:=by rw[t];split<;>rfl
     have ad:fA s1 k=0:=by rw[Y];split<;>rfl
     refine .inr ⟨by omega,?_,λl R W=>?_⟩
     ·rintro (e|⟨_,e⟩|e)
      ·rcases g with g|g|g
       ·exact u g.1
       ·rw[g.2.2.2] at e;cases e
       ·rw[g.2.2.2.1] at e;cases e
      ·exact u e
      ·exact q e
     ·unfold jC at W ⊢
      rw[a9 l R,a0];exact W
  ·rw[yb F] at v
   rw[v];obtain⟨b3,cf⟩:=z.dend Q hact X F;obtain⟨c0,V,av,a9,a1,A,aw,ab,az,a2⟩:=z.pot_dstep (c:=c) (B:=B) Q hact X {s.th k with act:=none,kn:=0};obtain⟨_,_,cv,db,e,d4,d2,d3⟩:=X;have c3:s1.th k=s.th k:=by rw[e];rfl
   have b0:s1.ths=s.ths:=by rw[e]
   have bb:s1.queue=s.queue:=by rw[e]
   have c2:s1.nms=s.nms:=by rw[e]
   unfold jg;simp only[c3,b0,bb,c2];obtain⟨o,ar⟩:=eX (s1.setTh k {s.th k with act:=none,kn:=0});rw[<-ar] at b3 cf av a9 a1 A aw ab az a2 ⊢;have a4:o.ths[k]?=some {s.th k with act:=none,kn:=0}:=by rw[ar];simp only[PS.setTh];rw[b0];exact bH br
   have an:o.queue=s.queue:=by rw[ar];exact bb
   have a8:fA o k=if bj o k then 10 else 0:=iM (by rw[a1])
   have am:=Co V
   by_cases u:(pstep x.d s.C a).what=1
   ·rw[yf u]
    have N:=am.2 (by omega)
    have ck:(s.th k).kn=1:=by
     have d1:a.kn=0:=by
      rcases V with⟨e,_⟩|⟨_,⟨e,_⟩|⟨_,e,_⟩|⟨_,e,_⟩|⟨_,e,_⟩|⟨_,e,_⟩⟩<;>omega
     rcases g with g|g|g<;>omega
    rw[yf ck] at t;rw[N] at A;have H:c*((x.L.length:Int)-x.L.length)=0:=by rw[Int.sub_self,Int.mul_zero]
    rw[H] at A;simp only[a2 N] at a8;exact .inl (by omega)
   ·rw[yb u]
    have ci:a.kn≠0:=λH=>by
     rcases V with⟨e,_⟩|⟨_,⟨_,e,_⟩|⟨e,_⟩|⟨e,_⟩|⟨e,_⟩|⟨e,_⟩⟩
     ·exact F e
     ·exact u e
     all_goals omega
    have bq:(s.th k).kn≠1:=by rcases g with g|g|g<;>omega
    have bx:(s.th k).run=false:=by
     rcases g with g|g|g
     ·exact absurd g.2.2 ci
     ·exact g.2.2.2
     ·exact g.2.2.2.1
    rw[yb bq] at t
    by_cases w:(pstep x.d s.C a).what=2
    ·rw[yf w]
     have cd:=b3.pot_begin (c:=c) (B:=B) a4 rfl (s.nms.getD (pstep x.d s.C a).val.toNat gY);rw[vh (am.1 w)] at A;refine .inl ?_
     have b7:fA o k<=(if bj s k then 10 else 0):=by
      rw[a8]
      by_cases b6:bj o k
      ·rw[yf b6,yf (av k b6)];exact yE _
      ·rw[yb b6];split<;>omega
     by_cases a5:(s.th k).kn=2
     ·have cg:j=k:=by rcases g with g|g|g<;>omega
      have q:bj s k:=.inl (by
       rw[<-cg,PS.dq_eq E];intro H;have:=am.1 w;rw[H] at this;simp at this)
      rw[yf a5,yf q] at t;rw[yf q] at b7;omega
     ·rw[yb a5] at t
      by_cases q:bj s k
      ·rw[yf q] at t b7;omega
      ·rw[yb q] at t b7;omega
    ·rw[yb w]
     have N:=am.2 w;have ai:aK G o ex:=b3.exMono λm cn=>cn.resolve_right λe=>w e.1
     rw[N] at A ab;have H:c*((x.L.length:Int)-x.L.length)=0:=by rw[Int.sub_self,Int.mul_zero]
     rw[H] at A;have a0:=a2 N;simp only[a0] at a8
     by_cases K:(s.th k).kn=2/\s.queue≠[]
     ·rw[yf K]
      have bz:=ai.unqueue (by rw[an];exact K.2);rw[an] at bz;have cd:=bz.pot_begin (c:=c) (B:=B) a4 rfl (s.queue.headD gY);refine .inl ?_
      have P:(s.dq k).L= []:=by
       have a6:j=k/\a.kn=1:=by rcases g with g|g|g<;>omega
       rw[<-a6.1,PS.dq_eq E]
       rcases V with⟨e,_⟩|⟨_,⟨_,e,_⟩|⟨_,e,_⟩|⟨_,_,_,e,_⟩|⟨e,_⟩|⟨e,_⟩⟩
       ·exact absurd e F
       ·exact absurd e u
       ·exact absurd e w
       ·exact e
       ·omega
       ·omega
      have c8:(o.dq k).L= []:=by
       by_cases e:k=j
       ·subst e
        rw[ab];rw[PS.dq_eq E] at P;exact P
       ·rw[az k e];exact P
      have bv:pot c B {o with queue:=s.queue.tail}<=pot c B o-10-fA o k+(if k=0 then 10 else 0):=by
       obtain⟨D,a7⟩:=eX ({o with queue:=s.queue.tail}:PS);rw[<-a7];have aE:D.ds=o.ds:=by rw[a7]
       have ad:D.ths=o.ths:=by rw[a7]
       have c1:D.T=o.T:=by rw[a7]
       have ba:D.queue=s.queue.tail:=by rw[a7]
       have b4:∀l,D.dq l=o.dq l:=λl=>by unfold PS.dq;rw[aE]
       have cq:∀l,bj D l->bj o l:=nA (λl z=>by rw[b4];exact z) (λbm=>by rw[ba];rw[an] at bm;rw[bm];rfl);have cm:k<o.ths.length:=(gS a4).1
       have d0:=mA (s:=o) (s':=D) (k:=k) (by rw[ad]) cm λl R _=>
        ai.wTh_le R (by unfold PS.th;rw[ad]) (λj i _=>by unfold PS.act;rw[b4]) (cq l)
       have da:fA D k<=(if k=0 then 10 else 0):=by
        have:(D.th k).act=none:=by
         unfold PS.th;rw[ad,kV a4]
        rw[iM this]
        by_cases S:bj D k
        ·rw[yf S]
         rcases S with S|S
         ·rw[b4] at S;exact absurd c8 S
         ·rw[yf S.1];exact yE _
        ·rw[yb S];split<;>omega
       have d6:(s.queue.tail.length:Int)=s.queue.length-1:=by
        have:=zK.2 K.2;rw[List.length_tail];omega
       unfold pot;rw[aE,c1,ba,an];omega
      rw[yf K.1] at t
      by_cases al:k=0
      ·have q:bj s k:=.inr ⟨al,K.2⟩
       rw[yf q] at t;rw[yf al] at bv;omega
      ·have q:¬bj s k:=by
        rintro (e|⟨e,_⟩)
        ·exact e P
        ·exact al e
       rw[yb q] at t;rw[yb al] at bv;omega
     ·rw[yb K]
      have b5:ts c B s k o/\(bj s k->pot c B o+1<=pot c B s):=by
       have bt:bj s k->pot c B o+1<=pot c B s:=by
        intro q
        by_cases a5:(s.th k).kn=2
        ·exfalso
         have P:(s.dq k).L= []:=by
          have a6:j=k/\a.kn=1:=by rcases g with g|g|g<;>omega
          rw[<-a6.1,PS.dq_eq E]
          rcases V with⟨e,_⟩|⟨_,⟨_,e,_⟩|⟨_,e,_⟩|⟨_,_,_,e,_⟩|⟨e,_⟩|⟨e,_⟩⟩
          ·exact absurd e F
          ·exact absurd e u
          ·exact absurd e w
          ·exact e
          ·omega
          ·omega
         rcases q with e|⟨_,e⟩
         ·exact e P
         ·exact K ⟨a5,e⟩
        ·rw[yb a5,yf q] at t
         rw[yf q] at a8;omega
       refine⟨?_,bt⟩
       by_cases q:bj s k
       ·exact .inl (bt q)
       ·rw[yb q] at a8
        have d9:fA s k=0:=by
         rw[t];simp only[yb q];split<;>rfl
        refine .inr ⟨by omega,?_,λl R W=>?_⟩
        ·rintro (e|⟨_,e⟩|e)
         ·rw[bx] at e;cases e
         ·exact bq e
         ·exact q e
        ·unfold jC at W ⊢
         rw[a9 l R,a0];exact W
      by_cases b1:(s.th k).kn=2/\1<s.ths.length
      ·rw[yf b1]
       have q:¬bj s k:=λq=>by
        have P:(s.dq k).L= []:=by
         have a6:j=k/\a.kn=1:=by rcases g with g|g|g<;>omega
         rw[<-a6.1,PS.dq_eq E]
         rcases V with⟨e,_⟩|⟨_,⟨_,e,_⟩|⟨_,e,_⟩|⟨_,_,_,e,_⟩|⟨e,_⟩|⟨e,_⟩⟩
         ·exact absurd e F
         ·exact absurd e u
         ·exact absurd e w
         ·exact e
         ·omega
         ·omega
        rcases q with e|⟨_,e⟩
        ·exact e P
        ·exact K ⟨b1.1,e⟩
       obtain⟨b8,bo⟩:=eX ((k+(1+b9 % (s.ths.length-1))) % s.ths.length);rw[<-bo]
       have ch:b8<o.ds.length:=by
        have c5:o.ths.length=s.ths.length:=by rw[ar];simp only[PS.setTh,yI,b0]
        rw[ai.nlen,c5,bo];exact Yj _ (by omega)
       have cp:¬bj o k:=λe=>q ((a0 k).1 e)
       rcases ai.pot_newAct (c:=c) (B:=B) (s':=jr o k b8) (y:=lE (o.dq b8)) (b:=cQ 2 0) (kk:=3) a4 rfl (fK (d:=F5) ch) rfl rfl rfl (by omega) (λe=>by omega) (by unfold jr;rw[a1];rfl) (λ_=>cp) with Z|Z
       ·rcases Z with Z|⟨Z,cB,c6⟩
        ·refine .inl ?_
         rcases b5.1 with b2|⟨b2,_⟩<;>omega
        ·rcases b5.1 with b2|⟨b2,c7,c4⟩
         ·exact .inl (by omega)
         ·exact .inr ⟨by omega,c7,λl R W=>c6 l R (c4 l R W)⟩
       ·rw[bx] at Z;cases Z
      ·rw[yb b1]
       exact b5.1
end
section
variable {G:dg}{s s' s1:PS}{ex ex':Nm->Prop}{k j i:Nat}{n m:Nm}{r:aG}{c B:Int}
theorem ts.le(b:ts c B s k s'):pot c B s'<=pot c B s:=by
 rcases b with b|⟨b,_⟩<;>omega
def PS.idle(s:PS):Prop:=∀n r,s.T.rw n=some r->r.sa=3\/r.sa=5\/r.sa=6
theorem ly{α:Type}{f:α->Int}(l:List α)(b:∀x∈l,0<=f x):0<=(l.map f).sum:=by
 induction l with
 |nil=>simp
 |cons a l e=>
  simp only[zc,zH];have:=b a (by simp);have:=e λx d=>b x (by simp[d])
  omega
theorem sd{α:Type}{f:α->Int}{a:α}:∀(l:List α),(∀x∈l,0<=f x)->a∈l->f a<=(l.map f).sum
 | [],_,d=>by simp at d
 |b :: l,d,e=>by
  simp only[zc,zH];have o:=ly (f:=f) l λx g=>d x (by simp[g])
  rcases yG.1 e with rfl|e
  ·omega
  ·have:=sd l (λx g=>d x (by simp[g])) e
   have:=d b (by simp);omega
theorem qi(b:0<=c)(t:TS)(n:Nm):0<=dU c t n:=by
 unfold dU;split
 ·omega
 ·unfold wR
  split
  ·omega
  ·split
   ·split
    ·omega
    ·split<;>omega
   ·split<;>omega
theorem aK.wDq_nonneg(b:aK G s ex)(g:0<=c){x:aT}(l:x∈s.ds):0<=mu c x:=by
 obtain⟨i,d⟩:=yF l;obtain⟨o,e⟩:=pW b.many d;have q:=b.many.c0s i x d;unfold mu;unfold aT.N at e;have:0<=c*(x.L.length:Int):=Int.mul_nonneg g (by omega);omega
theorem aK.wTh_nonneg(b:aK G s ex){l:Nat}(g:l<s.ths.length):0<=fA s l:=by
 have e:=fK (d:=mB) g;unfold fA
 cases ha:(s.th l).act with
 |none=>simp only;split<;>omega
 |some y=>
  obtain⟨j,i⟩:=y;have o:=b.rank_pos e ha;simp only;split
  ·split<;>omega
  ·split
   ·split<;>omega
   ·split<;>omega
theorem aK.pot_pos(b:aK G s ex)(A:10<=c)(z:(s.T.ks.length:Int)<=B):0<=pot c B s/\(¬s.idle->1<=pot c B s):=by
 have q:0<=gj c s.T:=ly _ λx _=>qi (by omega) _ _
 have u:0<=uT c s.ds:=ly _ λx e=>b.wDq_nonneg (by omega) e
 have v:0<=kq s:=ly _ λx e=>b.wTh_nonneg (zw.1 e)
 have w:0<=(2*c+60)*(B-s.T.ks.length):=Int.mul_nonneg (by omega) (by omega);refine⟨by unfold pot;omega,λg=>?_⟩
 have y:1<=gj c s.T:=by
  simp only[PS.idle,Classical.not_forall] at g;obtain⟨n,r,d,C⟩:=g;have l:n∈s.T.ks:=(b.t.ks n).2 (by rw[d];simp);have:=sd (f:=dU c s.T) s.T.ks (λx _=>qi (by omega) _ _) l
  have D:1<=dU c s.T n:=by
   obtain⟨p,x,_,_,o⟩:=(b.t.row n r d).node;have:=o.lo;rw[fO d];unfold wR;split
   ·omega
   ·rw[yf (by omega)]
    split
    ·omega
    ·split<;>omega
  unfold gj;omega
 unfold pot;omega
theorem aK.some_active(e:aK G s (λ_=>False))(D:0<s.ths.length)(w:¬s.idle):∃l,l<s.ths.length/\jC s l:=by
 simp only[PS.idle,Classical.not_forall] at w;obtain⟨n,r,o,K⟩:=w;obtain⟨p,x,_,_,E⟩:=(e.t.row n r o).node;have H:=E.lo;have A:n∈s.queue->∃l,l<s.ths.length/\jC s l:=λz=>⟨0,D,.inr (.inr (.inr ⟨rfl,λq=>by rw[q] at z;simp at z⟩))⟩
 have u:s.inL n->∃l,l<s.ths.length/\jC s l:=by
  rintro ⟨l,y,v,g,b,d⟩;refine⟨l,by rw[<-e.nlen];exact(gS g).1,.inr (.inr (.inl ?_))⟩;rw[PS.dq_eq g];exact λq=>by rw[q] at b;simp at b
 by_cases g:r.sa=1
 ·rcases e.ready n r o g nF with b|⟨_,b⟩
  ·exact A b
  ·exact u b
 ·by_cases b:r.sa=2
  ·obtain⟨l,L,d,C,F⟩:=e.runs n r o b
   exact⟨l,(gS d).1,.inl (by rw[PS.th_eq d];exact C)⟩
  ·rcases e.wakes n r o (by omega) nF with d|d
   ·exact A d
   ·exact u d
def mC(c B p0:Int)(s:PS)(k:Nat):Prop:=pot c B s+1<=p0\/(pot c B s<=p0/\∃l,k<=l/\l<s.ths.length/\jC s l)
theorem mC.start(b:aK G s (λ_=>False))(o:0<s.ths.length)(g:¬s.idle):mC c B (pot c B s) s 0:=by
 obtain⟨l,d,e⟩:=b.some_active o g;exact .inr ⟨yE _,l,by omega,d,e⟩
theorem mC.step{g:Int}(d:mC c B g s k)(b:ts c B s k s')(v:s'.ths.length=s.ths.length):mC c B g s' (k+1):=by
 have C:=b.le
 rcases d with d|⟨y,l,z,q,e⟩
 ·exact .inl (by omega)
 ·rcases b with b|⟨A,t,u⟩
  ·exact .inl (by omega)
  ·have w:l≠k:=λo=>t (by rw[<-o];exact e)
   exact .inr ⟨by omega,l,by omega,by rw[v];exact q,u l w e⟩
theorem mC.end_{d:Int}(b:mC c B d s s.ths.length):pot c B s+1<=d:=by
 rcases b with b|⟨_,l,e,g,_⟩
 ·exact b
 ·omega
theorem si(s:PS)(k:Nat)(n:Nm):(dX s k n).ths.length=s.ths.length:=by
 unfold dX;split
 ·rfl
 ·split<;>simp
theorem CJ(s:PS)(k:Nat)(n:Nm)(r:aG)(f:Fr)(t:aj):(i5 s k n r f t).ths.length=s.ths.length:=by
 unfold i5;split
 ·rfl
 ·split
  ·rfl
  ·simp[eJ]
theorem E3(s:PS)(k:Nat):(fi s k).ths.length=s.ths.length:=by
 unfold fi;split
 ·simp only
  split
  ·rfl
  ·exact CJ _ _ _ _ _ _
  ·split
   ·simp
   ·rfl
  ·split
   ·simp[eJ]
   ·simp
 ·rfl
theorem nO{e:Nat}(b:dt s k e s'):s'.ths.length=s.ths.length:=by
 unfold dt at b;split at b
 ·obtain⟨x,a,s1,l,b⟩:=b
  obtain⟨_,_,g,_⟩:=l.ex;have d:s1.ths.length=s.ths.length:=by rw[g]
  split at b
  ·rw[b,d]
  ·rw[b,<-d]
   unfold jg;simp only;split
   ·simp[PS.setTh]
   ·split
    ·rw[si];simp[PS.setTh]
    ·split
     ·rw[si];simp[PS.setTh]
     ·split
      ·simp[jr,PS.setTh]
      ·simp[PS.setTh]
 ·split at b
  ·rw[b];exact E3 s k
  ·rw[b];simp[lh]
theorem mf{α:Type}:∀(l m:List α),l.Nodup->(∀x∈l,x∈m)->l.length<=m.length
 | [],_,_,_=>by simp
 |a :: l,m,t,e=>by
  obtain⟨o,q⟩:=List.nodup_cons.1 t;obtain⟨x,y,rfl⟩:=List.append_of_mem (e a (by simp))
  have:=mf l (x++y) q λb g=>by
   have:=e b (by simp[g]);simp only[yH,yG] at this ⊢
   rcases this with d|d|d
   ·exact .inl d
   ·subst d;exact absurd g o
   ·exact .inr d
  simp at this ⊢;omega
def jM(G:dg)(j:Int):List Nm:=
 match G j with
 |none=>[]
 |some y=>(aF y.1 y.2).map λu=>⟨j,u.tk.M⟩
theorem cA.keys_le{t:TS}(b:cA G t)(jl:List Int)(e:∀j,G j≠none->j∈jl):t.ks.length<=(jl.flatMap (jM G)).length:=by
 refine mf _ _ b.nodup λn g=>?_
 cases hr:t.rw n with
 |none=>exact absurd hr ((b.ks n).1 g)
 |some r=>
  obtain⟨p,x,d,l,_⟩:=(b.row n r hr).node;refine List.mem_flatMap.2 ⟨n.job,e _ (by rw[d];simp),?_⟩;unfold jM;rw[d];refine yL.2 ⟨⟨r.tk,bw p r.tk,(aR p r.tk).length⟩,(jT _ _ (lR) _).2 ⟨_,_,l,rfl⟩,?_⟩;simp only;rw[b.M hr]
end
end
section
def dy(x:Int):Prop:=-9223372036854775808<=x/\x<=9223372036854775807
def vZ(l:List UInt8):Prop:=l.length<=12/\∀c∈l,1<=c.toNat/\c.toNat<=16
structure tv(p:List ah)(x:ah)(o:bK):Prop where
 k:1<=o.k/\o.k<=14
 d:0<=o.d/\o.d<=16
 a:0<=o.a/\o.a<=16
 b:0<=o.b/\o.b<=16
 n:dy o.n
 dr:o.k<=9\/o.k=12->o.d<x.rg
 ar:(2<=o.k/\o.k<=9)\/o.k=11\/o.k=14->o.a<x.rg
 br:3<=o.k/\o.k<=9->o.b<x.rg
 go:o.k=10\/o.k=11->0<=o.n/\o.n<x.ops.length
 fk:o.k=12->0<=o.n/\o.n<p.length/\((bG p o.n).args=0\/o.a+(bG p o.n).args<=x.rg)
 dz:o.k=10\/o.k=11\/o.k=13\/o.k=14->o.d=0
 az:o.k=1\/o.k=10\/o.k=13->o.a=0
 bz:o.k<=2\/10<=o.k->o.b=0
 nz:(2<=o.k/\o.k<=9)\/o.k=13\/o.k=14->o.n=0
structure vY(p:List ah)(x:ah):Prop where
 a0:0<=x.args
 ar:x.args<=x.rg
 r16:x.rg<=16
 o0:x.ops≠[]
 o64:x.ops.length<=64
 ops:∀o∈x.ops,tv p x o
 last:∀o,x.ops[x.ops.length-1]?=some o->o.k=10\/o.k=14
structure gH(p:List ah):Prop where
 p0:p≠[]
 p16:p.length<=16
 fns:∀x∈p,vY p x
structure cC(p:List ah)(t:aj):Prop where
 fn0:0<=t.fn
 fn1:t.fn<p.length
 al:(t.args.length:Int)=(bG p t.fn).args
 ai:∀x∈t.args,dy x
 fl:t.fuel<=65536
 pth:vZ t.M
structure gQ(p:List ah)(f:Fr):Prop where
 fn0:0<=f.fn
 fn1:f.fn<p.length
 at0:0<=f.at_
 at1:(∀o,f.waits=some o->o.k≠14)->f.at_<(bG p f.fn).ops.length
 at2:f.at_<=64
 rl:(f.rg.length:Int)=(bG p f.fn).rg
 ri:∀x∈f.rg,dy x
 kl:f.kd.length<=16
 jn:f.joined<=f.kd.length
 ki:∀k∈f.kd,(0<=k.into/\k.into<f.rg.length)/\dy k.r.v
 wt:∀o,f.waits=some o->(o.k=13\/o.k=14)/\0<=o.a/\(o.k=14->o.a<f.rg.length)
 lf:f.left<=65536
 pth:vZ f.M
theorem gy{p:List ah}{i:Int}(b:0<=i)(d:i<p.length):bG p i∈p/\p[i.toNat]?=some (bG p i):=by
 have:i.toNat<p.length:=by omega
 unfold bG;rw[yc,gG this];exact⟨yN this,rfl⟩
theorem kF{p:List ah}{i k:Int}(b:0<=k)(d:k<(bG p i).ops.length):bB p i k∈(bG p i).ops/\(bG p i).ops[k.toNat]?=some (bB p i k):=by
 have:k.toNat<(bG p i).ops.length:=by omega
 unfold bB;rw[yc,gG this];exact⟨yN this,rfl⟩
theorem gH.fn{p:List ah}(b:gH p){i:Int}(d:0<=i)(e:i<p.length):vY p (bG p i):=b.fns _ (gy d e).1
theorem vY.next{p:List ah}{x:ah}(e:vY p x){k:Nat}{o:bK}(d:x.ops[k]?=some o)(g:o.k≠10)(l:o.k≠14):k+1<x.ops.length:=by
 have t:=(gS d).1
 by_cases q:k+1<x.ops.length
 ·exact q
 ·have:k=x.ops.length-1:=by omega
  rw[this] at d
  rcases e.last o d with b|b
  ·exact absurd b g
  ·exact absurd b l
theorem n5:dy 0:=⟨by decide,by decide⟩
theorem Ed:dy 1:=⟨by decide,by decide⟩
theorem lY(x:Int):dy (IntKind.i64.wrap x):=by
 unfold IntKind.wrap dy;simp[IntKind.bits,IntKind.signed];split<;>omega
theorem pw{regs:List Int}(b:∀x∈regs,dy x)(a:Int):dy (ct regs a):=by
 unfold ct;rw[yc]
 cases he:regs[a.toNat]? with
 |none=>exact n5
 |some x=>exact b x (yh he)
theorem Cm{k a b x:Int}(e:dy a)(d:du k a b=some x):dy x:=by
 unfold du at d;split at d
 ·cases d;exact e
 split at d
 ·cases d;exact lY _
 split at d
 ·cases d;exact lY _
 split at d
 ·cases d;exact lY _
 split at d
 ·split at d
  ·cases d
  ·cases d;exact lY _
 split at d
 ·split at d
  ·cases d
  ·cases d;exact lY _
 split at d
 ·cases d;split<;>first|exact Ed|exact n5
 ·cases d;split<;>first|exact Ed|exact n5
theorem r7{regs:List Int}(g:∀x∈regs,dy x){d y:Int}(l:dy y):∀x∈jq regs d y,dy x:=by
 intro x e;unfold jq at e
 rcases List.mem_or_eq_of_mem_set e with b|b
 ·exact g x b
 ·rw[b];exact l
theorem qz(regs:List Int)(d y:Int):(jq regs d y).length=regs.length:=by simp[jq]
theorem fR:∀(l:List (Int×aL)) (regs:List Int),(dC l regs).length=regs.length
 | [],regs=>rfl
 |c :: l,regs=>by unfold dC;rw[fR l,qz]
theorem lC:∀(l:List (Int×aL)) (regs:List Int),(∀c∈l,dy c.2.v)->(∀x∈regs,dy x)->∀x∈dC l regs,dy x
 | [],regs,_,b=>b
 |c :: l,regs,d,b=>by
  unfold dC;exact lC l _ (λc e=>d c (yV _ e)) (r7 b (d c zh))
theorem uq{l:List cZ}(b:∀k∈l,dy k.r.v):∀c∈eo l,dy c.2.v:=by
 intro c d;obtain⟨k,e,rfl⟩:=yL.1 d;exact b k e
theorem oT{p:List ah}{x:ah}{o:bK}{regs:List Int}{at_:Int}{y:List Int×Int}(e:tv p x o)(d:∀x∈regs,dy x)(b:dF o regs at_=some y):
 y.1.length=regs.length/\(∀x∈y.1,dy x)/\(y.2=at_/\o.k≠10\/y.2=o.n/\(o.k=10\/o.k=11)):=by
 unfold dF at b;split at b
 ·cases b
  exact⟨qz _ _ _,r7 d e.n,.inl ⟨rfl,by omega⟩⟩
 split at b
 ·cases b
  exact⟨rfl,d,.inr ⟨rfl,.inl (by assumption)⟩⟩
 split at b
 ·cases b
  refine⟨rfl,d,?_⟩;simp only;split
  ·exact .inr ⟨rfl,.inr (by assumption)⟩
  ·exact .inl ⟨rfl,by omega⟩
 ·split at b
  ·cases b
  ·rename_i l q t _ z g
   cases b
   exact⟨qz _ _ _,r7 d (Cm (pw d _) g),.inl ⟨rfl,by assumption⟩⟩
section
variable {p:List ah}{f:Fr}
theorem oP{f:Fr}{k:cZ}(b:k∈f.os):k∈f.kd:=List.mem_of_mem_drop b
theorem rS(b:gQ p f)(o:bK)(u:(o.k=13\/o.k=14)/\0<=o.a/\(o.k=14->o.a<f.rg.length))(g:o.k≠14->f.at_<(bG p f.fn).ops.length):
 (∃r,(f.joins o).2=some (.done r)/\dy r.v/\(r.e=0\/r.v=0))\/gQ p (f.joins o).1:=by
 unfold Fr.joins;split
 ·exact .inr ⟨b.fn0,b.fn1,b.at0,λt=>g (t o rfl),b.at2,b.rl,b.ri,b.kl,b.jn,b.ki,λw d=>(by cases d;exact u),b.lf,b.pth⟩
 ·simp only
  split
  ·exact .inl ⟨_,rfl,n5,.inr rfl⟩
  ·have l:=lC (eo f.os) f.rg (uq λk e=>(b.ki k (oP e)).2) b.ri
   split
   ·exact .inl ⟨_,rfl,pw l _,.inl rfl⟩
   ·rename_i q
    exact .inr ⟨b.fn0,b.fn1,b.at0,λ_=>g q,b.at2,by rw[<-b.rl];simp only[fR],l,b.kl,lR,λk e=>by simp only[fR];exact b.ki k e,λw d=>(by cases d),b.lf,b.pth⟩
theorem uU{l:List Int}{a m:Nat}{x:Int}(b:x∈(l.drop a).take m):x∈l:=List.mem_of_mem_drop (List.mem_of_mem_take b)
theorem FL(Q:gH p)(b:gQ p f)(K:f.waits=none):
 (∃r,(f.step p).2=some (.done r)/\dy r.v/\(r.e=0\/r.v=0))\/(gQ p (f.step p).1/\∀t,(f.step p).2=some (.fork t)->cC p t):=by
 have a3:=b.at1 (λo e=>by rw[K] at e;cases e);have H:=Q.fn b.fn0 b.fn1;obtain⟨a7,a5⟩:=kF (p:=p) (i:=f.fn) b.at0 a3;have l:=H.ops _ a7;have an:=H.o64;unfold Fr.step;split
 ·exact .inl ⟨_,rfl,n5,.inr rfl⟩
 simp only;generalize bB p f.fn f.at_=o at*
 have w:o.k≠10->o.k≠14->f.at_+1<(bG p f.fn).ops.length:=λZ a1=>by
  have:=H.next a5 Z a1;have:=b.at0;omega
 have av:=b.at0;have aw:=b.lf
 have F:∀(C:List Int) (z:Int),C.length=f.rg.length->(∀x∈C,dy x)->0<=z->z<(bG p f.fn).ops.length->gQ p {f with left:=f.left-1,at_:=z,rg:=C}:=λC z L V W X=>
  ⟨b.fn0,b.fn1,W,λ_=>X,by simp only;omega,by rw[<-b.rl];simp only[L],V,b.kl,b.jn,λk g=>by simp only[L];exact b.ki k g,λR e=>(by simp only[K] at e;cases e),by simp only;omega,b.pth⟩
 split
 ·rename_i D
  unfold Fr.forks;simp only;split
  ·exact .inl ⟨_,rfl,n5,.inr rfl⟩
  split
  ·exact .inl ⟨_,rfl,n5,.inr rfl⟩
  rename_i am al
  right
  obtain⟨N,P,Y⟩:=l.fk D;have a4:=Q.fn N P;have a8:=b.rl;refine⟨⟨b.fn0,b.fn1,by simp only;omega,λ_=>w (by omega) (by omega),by simp only;have:=w (by omega) (by omega);omega,b.rl,b.ri,by simp;omega,by simp only[yk];exact lT b.jn (Nat.le_add_right _ _),λk g=>?_,λR e=>(by simp only[K] at e;cases e),by simp only;omega,b.pth⟩,λt e=>?_⟩
  ·rcases yH.1 g with g|g
   ·exact b.ki k g
   ·rw[yw] at g
    subst g;have:=l.dr (.inr D);exact⟨⟨l.d.1,by simp only;rw[a8];exact this⟩,n5⟩
  ·simp only[yC,iX.fork.injEq] at e
   subst e;refine⟨N,P,?_,λx a9=>b.ri x (uU a9),by simp only[dc];omega,?_⟩
   ·simp only[dc,ze,zF]
    have:=a4.a0;have:=l.a.1
    rcases Y with e|e<;>omega
   ·refine⟨by simp[dc];omega,λc q=>?_⟩
    simp only[dc,yH,yw] at q
    rcases q with q|q
    ·exact b.pth.2 c q
    ·subst q
     have:(UInt8.ofNat (f.kd.length+1)).toNat=f.kd.length+1:=by simp;omega
     rw[this];omega
 ·rename_i D
  split
  ·rename_i E
   have a2:o.k≠14->gQ p {f with left:=f.left-1,at_:=f.at_+1}:=λe=>F f.rg (f.at_+1) rfl b.ri (by omega) (w (by omega) e)
   have u:(∃r,(Fr.joins {f with left:=f.left-1,at_:=f.at_+1} o).2=some (.done r)/\dy r.v/\(r.e=0\/r.v=0))\/gQ p (Fr.joins {f with left:=f.left-1,at_:=f.at_+1} o).1:=by
    by_cases A:o.k=14
    ·unfold Fr.joins
     split
     ·exact .inr ⟨b.fn0,b.fn1,by simp only;omega,λa6=>absurd A (a6 o rfl),by simp only;omega,b.rl,b.ri,b.kl,b.jn,b.ki,λR e=>by simp only[yC] at e;subst e;exact⟨E,l.a.1,λe=>by have:=l.ar (.inr (.inr e));have:=b.rl;simp only;omega⟩,by simp only;omega,b.pth⟩
     ·simp only
      split
      ·exact .inl ⟨_,rfl,n5,.inr rfl⟩
      ·exact .inl ⟨_,rfl,pw (lC _ _ (uq λk g=>(b.ki k (oP g)).2) b.ri) _,.inl rfl⟩
    ·exact rS (a2 A) o ⟨E,l.a.1,λe=>absurd e A⟩ (λ_=>w (by omega) A)
   rcases u with u|u
   ·exact .inl u
   ·refine .inr ⟨u,λt e=>?_⟩
    exfalso;unfold Fr.joins at e;split at e
    ·cases e
    ·simp only at e
     split at e
     ·cases e
     ·split at e<;>cases e
  ·rename_i E
   cases hpl:dF o f.rg (f.at_+1) with
   |none=>exact .inl ⟨_,rfl,n5,.inr rfl⟩
   |some y=>
    obtain⟨S,T,ab⟩:=oT l b.ri hpl;refine .inr ⟨?_,λt e=>by cases e⟩
    rcases ab with⟨e,g⟩|⟨e,g⟩
    ·exact F y.1 y.2 S T (by omega) (by rw[e];exact w g (by omega))
    ·obtain⟨ad,ai⟩:=l.go g
     exact F y.1 y.2 S T (by omega) (by omega)
theorem rA(F:gH p)(q:gQ p f):
 (∃r,(f.run1 p).2=.done r/\dy r.v/\(r.e=0\/r.v=0))\/(gQ p (f.run1 p).1/\∀t,(f.run1 p).2=.fork t->cC p t):=by
 have A:∀g:Fr,gQ p g->g.waits=none->(∃r,(cz (g.step p)).2=.done r/\dy r.v/\(r.e=0\/r.v=0))\/(gQ p (cz (g.step p)).1/\∀t,(cz (g.step p)).2=.fork t->cC p t):=by
  intro g u l
  rcases FL F u l with⟨r,b,d,w⟩|⟨d,w⟩
  ·exact .inl ⟨r,by simp[cz,b],d,w⟩
  ·refine .inr ⟨d,λt b=>?_⟩
   unfold cz at b
   cases e:(g.step p).2 with
   |none=>rw[e] at b;cases b
   |some s=>rw[e] at b;simp only[zU] at b;exact w t (by rw[e,b])
 unfold Fr.run1
 cases l:f.waits with
 |none=>exact A f q l
 |some o=>
  simp only;have H:=q.wt o l;have D:o.k≠14->f.at_<(bG p f.fn).ops.length:=λb=>q.at1 (λK y=>by rw[l] at y;cases y;exact b)
  rcases rS q o H D with⟨r,b,d⟩|d
  ·cases hj:f.joins o with
   |mk f' s=>
    rw[hj] at b;simp only at b;subst b;exact .inl ⟨r,rfl,d⟩
  ·have z:∀t,(f.joins o).2≠some (.fork t):=by
    intro t b;unfold Fr.joins at b;split at b
    ·cases b
    ·simp only at b
     split at b
     ·cases b
     ·split at b<;>cases b
   have C:(f.joins o).2=none->(f.joins o).1.waits=none:=by
    intro b;unfold Fr.joins at b ⊢;split at b
    ·cases b
    ·rename_i u
     rw[yb u];simp only at b ⊢;split at b
     ·cases b
     ·rename_i e
      rw[yb e];split at b
      ·cases b
      ·rename_i E
       rw[yb E]
   cases hj:f.joins o with
   |mk f' s=>
    rw[hj] at d z C
    cases s with
    |none=>exact A f' d (C rfl)
    |some s=>exact .inr ⟨d,λt b=>absurd (by simp only at b ⊢;rw[b]) (z t)⟩
theorem pq(q:gH p){t:aj}(b:cC p t):gQ p (Fr.begun p t):=by
 have e:=q.fn b.fn0 b.fn1;have:=e.a0;have:=e.ar;have u:=b.al;refine⟨b.fn0,b.fn1,yE _,λ_=>?_,by simp[Fr.begun],?_,λx d=>?_,by simp[Fr.begun],by simp[Fr.begun],λk l=>by simp[Fr.begun] at l,λo g=>by simp[Fr.begun] at g,b.fl,b.pth⟩
 ·have:=zK.2 e.o0
  simp only[Fr.begun];omega
 ·simp only[Fr.begun,ij,yk,List.length_replicate]
  omega
 ·simp only[Fr.begun,ij,yH] at d
  rcases d with d|d
  ·exact b.ai x d
  ·rw[(List.mem_replicate.1 d).2]
   exact n5
theorem AK{i:Nat}{r:aL}(b:gQ p f)(l:dy r.v)(e:i<f.kd.length):gQ p (f.give i r):=by
 refine⟨b.fn0,b.fn1,b.at0,b.at1,b.at2,b.rl,b.ri,by simpa[Fr.give] using b.kl,by simpa[Fr.give] using b.jn,λk g=>?_,b.wt,b.lf,b.pth⟩;simp only[Fr.give] at g
 rcases List.mem_or_eq_of_mem_set g with d|d
 ·exact b.ki k d
 ·subst d
  refine⟨?_,l⟩;rw[yc,gG e];exact(b.ki _ (yN e)).1
end
def qJ(x:aL):Prop:=dy x.v/\0<=x.e/\x.e<=200
theorem rN:∀(l:List (Int×aL)),(∀c∈l,qJ c.2)->0<=cD l/\cD l<=200
 | [],_=>⟨by decide,by decide⟩
 |c :: l,b=>by
  unfold cD;split
  ·exact(b c zh).2
  ·exact rN l λc d=>b c (yV _ d)
theorem E1{p:List ah}(N:gH p):∀(left:Nat) (path:List UInt8) (fn:Int) (regs:List Int) (at_:Int) (kids:Nat) (ws:List (Int×aL)),
 vZ path->0<=fn->fn<p.length->left<=65536->(regs.length:Int)=(bG p fn).rg->(∀x∈regs,dy x)->0<=at_->at_<(bG p fn).ops.length->(∀c∈ws,qJ c.2)->
 qJ (cM p path fn left regs at_ kids ws).1/\(∀t∈(cM p path fn left regs at_ kids ws).2,cC p t):=by
 intro left
 induction left using Nat.strongRecOn with
 |_ left E=>
  intro path fn regs at_ kids ws D w A ab P v Z a1 u;have z:∀g:Int,0<=g->g<=200->qJ ⟨0,g⟩:=λg F H=>⟨n5,F,H⟩
  unfold cM
  cases left with
  |zero=>exact⟨z 130 (by decide) (by decide),λt e=>by cases e⟩
  |succ l=>
   have T:=N.fn w A;obtain⟨a4,a3⟩:=kF (p:=p) (i:=fn) Z a1;have C:=T.ops _ a4;simp only;generalize bB p fn at_=o at*
   have L:o.k≠10->o.k≠14->at_+1<(bG p fn).ops.length:=λF H=>by
    have:=T.next a3 F H;omega
   split
   ·rename_i Y
    split
    ·exact⟨z 132 (by decide) (by decide),λt e=>by cases e⟩
    split
    ·exact⟨z 133 (by decide) (by decide),λt e=>by cases e⟩
    rename_i a9 ad;obtain⟨W,X,a5⟩:=C.fk Y;have a2:=N.fn W X
    have R:cC p (dc p path kids o regs l):=by
     refine⟨W,X,?_,λx Q=>v x (uU Q),by simp only[dc];omega,?_⟩
     ·simp only[dc,ze,zF]
      have:=a2.a0;have:=C.a.1
      rcases a5 with g|g<;>omega
     ·refine⟨by simp[dc];omega,λc b=>?_⟩
      simp only[dc,yH,yw] at b
      rcases b with b|b
      ·exact D.2 c b
      ·subst b
       have:(UInt8.ofNat (kids+1)).toNat=kids+1:=by simp;omega
       rw[this];omega
    have q:=pq N R;have Q:=E (l / 2) (by omega) _ _ _ 0 0 [] q.pth q.fn0 q.fn1 (by omega) q.rl q.ri q.at0 (q.at1 (λo g=>by cases g)) (λc b=>by cases b)
    have V:=E (l-l / 2) (by omega) path fn regs (at_+1) (kids+1) (ws++ [(o.d,(cM p (dc p path kids o regs l).M (dc p path kids o regs l).fn (l / 2) (ij p (dc p path kids o regs l).fn (dc p path kids o regs l).args) 0 0 []).1)]) D w A (by omega) P v (by omega) (L (by omega) (by omega)) (λc b=>by
     rcases yH.1 b with b|b
     ·exact u c b
     ·rw[yw] at b
      rw[b];exact Q.1)
    exact⟨V.1,λt e=>by
     rcases yG.1 e with e|e
     ·rw[e];exact R
     ·exact V.2 t e⟩
   split
   ·split
    ·have:=rN ws u
     exact⟨z _ this.1 this.2,λt e=>by cases e⟩
    ·exact E l (by omega) path fn _ (at_+1) kids [] D w A (by omega) (by rw[fR];exact P) (lC ws regs (λc b=>(u c b).1) v) (by omega) (L (by omega) (by omega)) (λc b=>by cases b)
   split
   ·split
    ·have:=rN ws u
     exact⟨z _ this.1 this.2,λt e=>by cases e⟩
    ·exact⟨⟨pw (lC ws regs (λc b=>(u c b).1) v) _,yE 0,(by decide:(0:Int)<=200)⟩,λt e=>by cases e⟩
   ·cases hpl:dF o regs (at_+1) with
    |none=>exact⟨z 131 (by decide) (by decide),λt e=>by cases e⟩
    |some y=>
     obtain⟨a6,a7,a8⟩:=oT C v hpl
     have S:0<=y.2/\y.2<(bG p fn).ops.length:=by
      rcases a8 with⟨g,K⟩|⟨g,K⟩
      ·have:=L K (by omega)
       omega
      ·have:=C.go K
       omega
     exact E l (by omega) path fn y.1 y.2 kids ws D w A (by omega) (by rw[a6];exact P) a7 S.1 S.2 u
theorem lF{p:List ah}(e:gH p){t:aj}(d:cC p t):qJ (bw p t)/\∀k∈aR p t,cC p k:=by
 have b:=pq e d;exact E1 e t.fuel t.M t.fn _ 0 0 [] b.pth b.fn0 b.fn1 d.fl b.rl b.ri b.at0 (b.at1 (λo g=>by cases g)) (λc l=>by cases l)
open Classical
structure iF(s:PS):Prop where
 rw:s.T.rw=λ_=>none
 ks:s.T.ks= []
 fm:s.T.fm=λ_=>none
 hist:s.T.hist= []
 outs:∀m,s.T.outs m↔s.known m≠none\/s.away m=true
 many:fI s.C s.ds
 ds:∀x∈s.ds,x.acts= []/\x.on=none/\x.L= []/\x.P=0/\x.own=4+x.c0
 nlen:s.ds.length=s.ths.length
 ths:∀th∈s.ths,th=mB
 queue:s.queue= []
 nms:s.nms= []
 roots:∀n,s.roots n=none
noncomputable def iH(t:TS)(n:Nm)(x:aj):TS:={t with rw:=ax t.rw n (some ⟨x,1,0,⟨0,0⟩,false,0,false⟩),ks:=t.ks++ [n]}
noncomputable def en(s:PS)(n:Nm)(x:aj):PS:={s with T:=iH s.T n x,roots:=ax s.roots n (some (x.fuel+1)),queue:=s.queue++ [n]}
section
variable {G:dg}{s s':PS}{ex:Nm->Prop}{n:Nm}{x:aj}{p:List ah}{c B:Int}
theorem iF.th(b:iF s)(k:Nat):s.th k=mB:=by
 unfold PS.th;rw[yc]
 cases he:s.ths[k]? with
 |none=>rfl
 |some t=>exact b.ths t (yh he)
theorem iF.dq(b:iF s)(k:Nat):(s.dq k).L= []/\(s.dq k).acts= []/\(s.dq k).on=none:=by
 unfold PS.dq;rw[yc]
 cases he:s.ds[k]? with
 |none=>exact⟨rfl,rfl,rfl⟩
 |some t=>
  have:=b.ds t (yh he);exact⟨this.2.2.1,this.1,this.2.1⟩
theorem iF.inv(d:iF s)(z:∀j p x,G j=some (p,x)->s.progs j=some p)(A:∀j p x,G j=some (p,x)->x.M= [])
 (w:∀m y p x u,s.known m=some y->G m.job=some (p,x)->bM p x m.M=some u->y=bw p u):aK G s (λ_=>False):=by
 have e:∀n r,s.T.rw n=some r->False:=λn r b=>by rw[d.rw] at b;cases b
 have o:∀(k:Nat) (th:Th),s.ths[k]?=some th->th=mB:=λk th b=>d.ths th (yh b)
 refine⟨⟨by rw[d.ks];exact List.nodup_nil,λn=>?_,λn _=>by rw[d.fm],λn r b=>(e n r b).elim,by rw[d.hist];exact List.nodup_nil,λn k x=>?_,A⟩,z,d.many,λx q a t=>?_,d.nlen,λx q v hv=>?_,by rw[d.nms];exact List.nodup_nil,λk th b=>?_,λk l th C _ b _ g=>?_,λk l th C y _ b _ g=>?_,λn r b=>(e n r b).elim,λn r b=>(e n r b).elim,λn r b=>(e n r b).elim,λm _=>d.outs m,w,λn b=>absurd (d.roots n) b⟩
 ·rw[d.ks,d.rw];simp
 ·rw[d.hist]
  exact⟨λb=>(by cases b),λ⟨r,b,_⟩=>(e n r b).elim⟩
 ·rw[(d.ds x q).1] at t;cases t
 ·rw[(d.ds x q).2.2.1] at hv;cases hv
 ·rw[o k th b]
  refine⟨λb=>(by cases b),λ_=>?_,λj i b=>(by cases b)⟩;rw[(d.dq k).2.1,(d.dq k).2.2];rfl
 ·rw[o k th b] at g;cases g
 ·rw[o k th b] at g;cases g
theorem iI(t:TS)(n:Nm)(x:aj)(m:Nm):(iH t n x).rw m=if m=n then some ⟨x,1,0,⟨0,0⟩,false,0,false⟩ else t.rw m:=rfl
theorem cA.add{t:TS}(l:cA G t)(H:G n.job=some (p,x))(A:n.M= [])(z:t.rw n=none)(K:¬t.outs n):cA G (iH t n x):=by
 have D:∀(m:Nm) (i:Nat),aH m i≠n:=λm i d=>jk m i (by rw[d,A])
 refine⟨?_,λm=>?_,λm o=>?_,λm r o=>?_,l.hnodup,λm k y=>?_,l.roots⟩
 ·refine zy.2 ⟨l.nodup,by simp,λa F b C d=>?_⟩
  rw[yw] at C;subst C;subst d;exact(l.ks _).1 F z
 ·rw[iI]
  simp only[iH,yH,yw]
  by_cases d:m=n
  ·simp[d]
  ·simp[d,l.ks m]
 ·rw[iI] at o
  split at o
  ·cases o
  ·exact l.none_ m o
 ·rw[iI] at o
  split at o
  ·rename_i d
   subst d
   cases o
   refine⟨⟨p,x,H,?_,⟨by simp,λ_=>⟨rfl,l.none_ m z⟩,λd=>?_,λd=>(by cases d),λd=>(by cases d),?_⟩⟩,.inl ⟨rfl,A⟩,λi w=>absurd w (zZ i),rfl,yx 16⟩
   ·rw[A];simp[bM]
   ·rcases d with d|d|d<;>cases d
   ·exact⟨λd=>absurd d K,λd=>(by rcases d with d|⟨d,_⟩<;>cases d)⟩
  ·rename_i d
   have v:=l.row m r o;refine⟨?_,?_,λi w=>?_,?_,v.kn⟩
   ·obtain⟨q,y,e,g,u⟩:=v.node
    exact⟨q,y,e,g,⟨u.lo,u.idle,u.runs,u.waits,u.over,u.O⟩⟩
   ·rcases v.up with k|⟨k,L,i,q,e,g,u⟩
    ·exact .inl k
    ·refine .inr ⟨k,L,i,q,e,?_,u⟩
     rw[iI,yb (λE=>by rw[E,z] at g;cases g)];exact g
   ·rw[iI,yb (D m i)]
    exact v.down i w
   ·rw[v.opn]
    congr 1
    refine(ip λi w=>?_).symm;unfold cI;rw[iI,yb (D m i)]
 ·rw[show(iH t n x).hist=t.hist from rfl,l.hist m k y]
  constructor
  ·rintro ⟨r,e,g⟩
   refine⟨r,?_,g⟩;rw[iI,yb (λd=>by rw[d,z] at e;cases e)];exact e
  ·rintro ⟨r,e,g⟩
   rw[iI] at e;split at e
   ·cases e
    exact absurd (show(1:Nat)=6 from g.1) (by decide)
   ·exact⟨r,e,g⟩
theorem aK.add(d:aK G s (λ_=>False))(y:G n.job=some (p,x))(q:n.M= [])(o:s.T.rw n=none)(z:s.known n=none)(w:s.away n=false):aK G (en s n x) (λ_=>False):=by
 have A:¬s.T.outs n:=λb=>by
  rcases(d.outN n o).1 b with b|b
  ·exact b z
  ·rw[w] at b;cases b
 have l:∀m,(en s n x).T.rw m=if m=n then some ⟨x,1,0,⟨0,0⟩,false,0,false⟩ else s.T.rw m:=λm=>rfl
 have cE:∀m r,s.T.rw m=some r->(en s n x).T.rw m=some r:=λm r b=>by
  rw[l,yb (λe=>by rw[e,o] at b;cases b)];exact b
 refine⟨d.t.add y q o A,d.progs,d.many,d.kinds,d.nlen,d.vals,d.nnodup,λk th b=>?_,d.one,d.acts,λm r b g _=>?_,λm r b g _=>?_,λm r b g=>?_,λm b=>?_,d.known,λm b=>?_⟩
 ·obtain⟨D,E,F⟩:=d.th k th b
  exact⟨λb=>by obtain⟨r,u,v⟩:=D b;exact⟨r,cE _ _ u,v⟩,E,F⟩
 ·rw[l] at b
  split at b
  ·rename_i e
   exact .inl (by rw[e];simp[en])
  ·rename_i e
   rcases d.ready m r b g nF with k|⟨k,C⟩
   ·exact .inl (by simp only[en,yH];exact .inl k)
   ·exact .inr ⟨by simp only[en];rw[ag _ _ e];exact k,C⟩
 ·rw[l] at b
  split at b
  ·cases b;cases g
  ·rcases d.wakes m r b g nF with k|k
   ·exact .inl (by simp only[en,yH];exact .inl k)
   ·exact .inr k
 ·rw[l] at b
  split at b
  ·cases b;cases g
  ·exact d.runs m r b g
 ·rw[l] at b
  split at b
  ·cases b
  ·exact d.outN m b
 ·by_cases e:m=n
  ·rw[e];exact q
  ·simp only[en] at b
   rw[ag _ _ e] at b;exact d.roots m b
theorem qD{α:Type}{f:α->Int}(l:List α)(b:∀x∈l,f x=0):(l.map f).sum=0:=by
 induction l with
 |nil=>rfl
 |cons a l e=>
  rw[zc,zH,b a zh,e λx d=>b x (yV _ d)];rfl
theorem DQ{f:Nat->Int}(m:Nat)(e:f 0<=10)(b:∀k,k≠0->f k=0)(g:0<=f 0):((List.range m).map f).sum<=10:=by
 cases m with
 |zero=>simp
 |succ m=>
  rw[List.range_succ_eq_map,zc,zH,qD]
  ·omega
  ·intro x d
   obtain⟨y,_,rfl⟩:=yL.1 d;exact b _ (Nat.succ_ne_zero y)
theorem iF.pot(d:iF s)(n:Nm)(x:aj):pot c B (en s n x)<=c+51+x.fuel+(2*c+60)*(B-1):=by
 have l:gj c (iH s.T n x)=c+31+x.fuel:=by
  unfold gj;have:(iH s.T n x).ks= [n]:=by simp[iH,d.ks]
  rw[this];simp only[zc,Yk,zH,List.sum_nil]
  have e:dU c (iH s.T n x) n=c+31+x.fuel:=by
   rw[fO (r:=⟨x,1,0,⟨0,0⟩,false,0,false⟩) (by rw[iI,yf rfl])];exact DZ rfl
  rw[e];omega
 have o:uT c s.ds=0:=qD _ λy z=>by
  obtain⟨_,_,A,C,D⟩:=d.ds y z;unfold mu;rw[A,C,D];simp;omega
 have E:kq (en s n x)<=10:=by
  unfold kq
  have e:∀k,fA (en s n x) k=if bj (en s n x) k then 10 else 0:=λk=>by
   refine iM ?_;have:=d.th k;rw[show(en s n x).th k=s.th k from rfl,this];rfl
  have w:∀k,bj (en s n x) k->k=0:=λk b=>by
   rcases b with b|⟨b,_⟩
   ·exact absurd (d.dq k).1 b
   ·exact b
  refine DQ _ ?_ (λk b=>?_) ?_
  ·rw[e];split<;>omega
  ·rw[e,yb (λg=>b (w k g))]
  ·rw[e];split<;>omega
 have q:((en s n x).T.ks.length:Int)=1:=by simp[en,iH,d.ks]
 have t:((en s n x).queue.length:Int)=1:=by simp[en,d.queue]
 have u:(en s n x).ds=s.ds:=rfl;have v:(en s n x).T=iH s.T n x:=rfl;unfold Go.Proofs.YtmdocplknceilaaGreat.pot;rw[q,t,u,o,v,l];omega
end
def mL(ds:List aT):Int:=(ds.map aT.P).sum
section
variable {G:dg}{s s' s1:PS}{ex:Nm->Prop}{k j i:Nat}{n m:Nm}{r:aG}
theorem nS{l:List aT}{i:Nat}{x y:aT}(b:l[i]?=some x):mL (l.set i y)=mL l-x.P+y.P:=mU aT.P l i x y b
theorem oY{l:List aT}{i:Nat}{y:aT}(b:l[i]?=none):mL (l.set i y)=mL l:=by
 rw[List.getElem?_eq_none_iff] at b;rw[List.set_eq_of_length_le b]
def iY(s:PS):Int:=mL s.ds-s.T.ks.length-s.T.hist.length
theorem sh(s:PS)(k:Nat)(n:Nm):iY (dX s k n)=iY s:=by
 unfold dX;split
 ·rfl
 ·split<;>rfl
theorem uD(s:PS)(k:Nat)(n:Nm):iY (eJ s k n)<=iY s+1:=by
 unfold iY eJ;simp only
 cases h:s.ds[k]? with
 |none=>rw[oY h];omega
 |some x=>
  rw[nS h,PS.dq_eq h];simp only[eU];omega
theorem CI(s:PS)(k:Nat)(n:Nm)(r:aG)(f:Fr)(t:aj):iY (i5 s k n r f t)<=iY s:=by
 have b:∀c,iY {s with T:=bQ s.T n r f c} =iY s-1:=λc=>by
  unfold iY bQ;simp only[yk,zo,List.length_nil];omega
 unfold i5;split
 ·rw[b];omega
 ·split
  ·rw[b];omega
  ·exact Ya (uD _ _ _) (by rw[b];omega)
theorem ur(s:PS)(n:Nm)(r:aG)(x:aL)(ths:List Th):iY {s with T:=bI s.T n r x true,ths:=ths} =iY s-1:=by
 unfold iY bI;simp only[yR,yk,zo,List.length_nil];omega
theorem E2(s:PS)(k:Nat):iY (fi s k)<=iY s:=by
 unfold fi;split
 ·simp only
  split
  ·exact yE _
  ·exact CI _ _ _ _ _ _
  ·split<;>exact yE _
  ·split
   ·exact Ya (uD _ _ _) (by rw[ur];omega)
   ·rw[ur];omega
 ·exact yE _
theorem DP{d:Nat}(b:dt s k d s'):iY s'<=iY s:=by
 unfold dt at b;split at b
 ·obtain⟨x,a,s1,g,b⟩:=b
  obtain⟨t,ws',l,_⟩:=g.ex
  have e:iY s1=iY s:=by
   rw[l];unfold iY;simp only;rw[nS g.hx];show mL s.ds-x.P+x.P-_-_=_;omega
  split at b
  ·rw[b,e];exact yE _
  ·rw[b,<-e]
   unfold jg;simp only;split
   ·exact yE _
   ·split
    ·rw[sh];exact yE _
    ·split
     ·rw[sh];exact yE _
     ·split
      ·unfold jr iY
       simp only;generalize ((k+(1+d % (s1.ths.length-1))) % s1.ths.length)=q
       cases h:s1.ds[q]? with
       |none=>exact Int.le_of_eq (by rw[show(s1.setTh k {s1.th k with act:=none,kn:=0}).ds=s1.ds from rfl,oY h];rfl)
       |some x=>
        have o:(s1.setTh k {s1.th k with act:=none,kn:=0}).dq q=x:=PS.dq_eq h;rw[show(s1.setTh k {s1.th k with act:=none,kn:=0}).ds=s1.ds from rfl,nS h,o];simp only[lE,PS.setTh];omega
      ·exact yE _
 ·split at b
  ·rw[b];exact E2 s k
  ·rw[b]
   unfold lh iY;simp only
   cases h:s.ds[k]? with
   |none=>rw[oY h];omega
   |some x=>
    rw[nS h,PS.dq_eq h];simp only[nI];omega
theorem cA.hist_le{t:TS}(b:cA G t):t.hist.length<=t.ks.length:=by
 have:=mf _ t.ks b.hnodup λn e=>by
  obtain⟨⟨n',k,x⟩,d,rfl⟩:=yL.1 e;obtain⟨r,g,_⟩:=(b.hist n' k x).1 d;exact(b.ks n').2 (by rw[g];simp)
 rwa [zY] at this
end
end
end Go.Proofs.YtmdocplknceilaaGreat
