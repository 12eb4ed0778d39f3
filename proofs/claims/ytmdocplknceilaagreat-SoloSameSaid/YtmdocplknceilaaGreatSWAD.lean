import Derived.Test.YtmdocplknceilaaGreatSWAC
set_option linter.all false
namespace Go.Proofs.YtmdocplknceilaaGreat
section
open Classical
structure fi(s s':PS):Prop where
 known:s'.known=s.known
 away:s'.away=s.away
 outs:s'.T.outs=s.T.outs
 progs:s'.progs=s.progs
 roots:s'.roots=s.roots
 c0:s'.ds.map aM.c0=s.ds.map aM.c0
section
variable {G:cG}{s s' s1 s2:PS}{ex:Nm->Prop}{k j i:Nat}{n m:Nm}{r:aC}
theorem fi.refl(s:PS):fi s s:=⟨rfl,rfl,rfl,rfl,rfl,rfl⟩
theorem fi.trans(a:fi s s1)(q:fi s1 s2):fi s s2:=⟨q.known.trans a.known,q.away.trans a.away,q.outs.trans a.outs,q.progs.trans a.progs,q.roots.trans a.roots,q.c0.trans a.c0⟩
theorem oU{l:List aM}{i:Nat}{y:aM}(c:∀x,l[i]?=some x->y.c0=x.c0):(l.set i y).map aM.c0=l.map aM.c0:=by
 apply zt;intro j;rw[yJ,yJ,zg];split
 ·rename_i b
  subst b;split
  ·rename_i a
   rw[gG a];simp only[yU,yC];exact c _ (gG a)
  ·rename_i a
   rw[zv (yA a)]
 ·rfl
theorem nJ(s:PS)(k:Nat)(n:Nm):fi s (dB s k n):=by
 unfold dB;split
 ·exact fi.refl s
 ·split
  ·exact⟨rfl,rfl,rfl,rfl,rfl,rfl⟩
  ·exact fi.refl s
theorem pE(s:PS)(k:Nat)(n:Nm):fi s (dS s k n):=
 ⟨rfl,rfl,rfl,rfl,rfl,oU λx a=>by rw[PS.dq_eq a];rfl⟩
theorem uu(s:PS)(k:Nat)(n:Nm)(r:aC)(f:Fr)(t:aA):fi s (gW s k n r f t):=by
 have a:∀c,fi s {s with T:=bB s.T n r f c}:=λc=>⟨rfl,rfl,rfl,rfl,rfl,rfl⟩
 unfold gW;split
 ·exact a _
 ·split
  ·exact a _
  ·exact(a _).trans (pE _ _ _)
theorem xJ(s:PS)(k:Nat):fi s (eA s k):=by
 unfold eA;split
 ·simp only
  split
  ·exact⟨rfl,rfl,rfl,rfl,rfl,rfl⟩
  ·exact uu _ _ _ _ _ _
  ·split<;>exact⟨rfl,rfl,rfl,rfl,rfl,rfl⟩
  ·have a:∀n r x ths,fi s {s with T:=bh s.T n r x true,ths:=ths}:=λn r x ths=>⟨rfl,rfl,rfl,rfl,rfl,rfl⟩
   split
   ·exact(a _ _ _ _).trans (pE _ _ _)
   ·exact a _ _ _ _
 ·exact fi.refl s
theorem mc{q:Nat}(b:cL s k q s'):fi s s':=by
 unfold cL at b;split at b
 ·obtain⟨x,a,s1,g,b⟩:=b
  obtain⟨w,ws',v,_⟩:=g.ex
  have e:fi s s1:=by
   rw[v];exact⟨rfl,rfl,rfl,rfl,rfl,oU λy l=>by rw[g.hx] at l;cases l;rfl⟩
  have c:∀(u:PS) (th:Th),fi u (u.setTh k th):=λu th=>⟨rfl,rfl,rfl,rfl,rfl,rfl⟩
  split at b
  ·rw[b];exact e
  ·rw[b]
   refine e.trans ?_;unfold ij;simp only;split
   ·exact c _ _
   ·split
    ·exact(c _ _).trans (nJ _ _ _)
    ·split
     ·refine fi.trans ?_ (nJ _ _ _)
      exact⟨rfl,rfl,rfl,rfl,rfl,rfl⟩
     ·split
      ·refine(c s1 {s1.th k with act:=none,kn:=0}).trans ?_
       exact⟨rfl,rfl,rfl,rfl,rfl,oU λx d=>by rw[PS.dq_eq d];rfl⟩
      ·exact c _ _
 ·split at b
  ·rw[b];exact xJ s k
  ·rw[b]
   exact⟨rfl,rfl,rfl,rfl,rfl,oU λx d=>by rw[PS.dq_eq d];rfl⟩
structure n4(G:cG)(s:PS):Prop where
 inv:aF G s (λ_=>False)
 ex:gU s<=0
 c0:∀x∈s.ds,x.c0<=256
 th:s.ths.length<=8
theorem n4.step(a:n4 G s)(g:k<s.ths.length){d:Nat}(b:cL s k d s'):n4 G s':=by
 refine⟨a.inv.step g b,Ya (BC b) a.ex,λx l=>?_,by rw[md b];exact a.th⟩;have c:x.c0∈s'.ds.map aM.c0:=yL.2 ⟨x,l,rfl⟩;rw[(mc b).c0] at c;obtain⟨y,q,e⟩:=yL.1 c;rw[<-e];exact a.c0 y q
theorem pM:∀(l:List aM),(∀x∈l,x.own<=260+6*x.P)->(l.map aM.own).sum<=260*(l.length:Int)+6*(l.map aM.P).sum
 | [],_=>by simp
 |a :: l,b=>by
  have d:=b a (by simp);have e:=pM l λx c=>b x (by simp[c])
  simp only[zc,zH,zo];omega
theorem n4.bd(b:n4 G s)(A:s.T.ks.length<=1100):(∀x∈s.ds,x.P<=10000/\x.N<=20000)/\s.C.length<=45000:=by
 have B:=b.inv.t.hist_le;have d:=b.ex;unfold gU at d
 have c:∀x∈s.ds,0<=x.P/\x.own<=4-2*x.c0+3*x.N/\1<=x.c0:=λx a=>by
  obtain⟨i,e⟩:=yF a;have:=nR b.inv.many e;exact⟨this.1,this.2,b.inv.many.c0s i x e⟩
 have u:∀x∈s.ds,x.P<=lr s.ds:=λx a=>ql (f:=aM.P) _ (λy v=>(c y v).1) a
 constructor
 ·intro x a
  have g:=u x a;have l:=b.c0 x a;have q:=(c x a).1;refine⟨by omega,?_⟩;unfold aM.N;omega
 ·have g:=b.inv.many.sum
  have l:=pM s.ds λx a=>by
   obtain⟨D,w,E⟩:=c x a;have:=b.c0 x a;unfold aM.N at w;omega
  have q:=b.inv.nlen;have z:=b.th;unfold lr at d;omega
theorem px{rows:Nm->Option aC}{n:Nm}:∀{kn:Nat},(∀i,i<kn->bZ rows (aD n i)=false)->dC rows n kn=0
 |0,_=>rfl
 |kn+1,a=>by
  rw[ko,px λi b=>a i (by omega),a kn (by omega)];rfl
theorem aF.idle_over(b:aF G s ex)(l:∀m,¬s.T.outs m)(g:s.idle){n:Nm}{r:aC}(a:s.T.rw n=some r):r.sa=6/\r.opn=0/\r.here=true:=by
 have u:∀n r,s.T.rw n=some r->r.sa≠5:=λn r a q=>by
  obtain⟨p,x,_,_,e⟩:=(b.t.row n r a).node;exact l n (e.O.2 (.inl q))
 have d:=b.t.waits_away g u;obtain⟨p,x,_,_,e⟩:=(b.t.row n r a).node;refine⟨d n r a,?_,?_⟩
 ·rw[(b.t.row n r a).opn,px λi g=>?_]
  ·rfl
  ·unfold bZ
   cases hc:s.T.rw (aD n i) with
   |none=>rfl
   |some c=>simp[d _ c hc]
 ·cases hh:r.here with
  |true=>rfl
  |false=>exact absurd (e.O.2 (.inr ⟨d n r a,hh⟩)) (l n)
structure C3(got:List (Nm×Nat×aO))(want:List mZ)(job:Int)(but:List UInt8->Prop):Prop where
 nodup:(got.map (·.1)).Nodup
 sound:∀g∈got,∃u∈want,g=(⟨job,u.tk.M⟩,u.kd,u.res)
 all:∀u∈want,((⟨job,u.tk.M⟩ :Nm)∈got.map (·.1)↔¬but u.tk.M)
theorem aF.one_rows(a:aF G s ex)(g:∀m,¬s.T.outs m)(v:s.idle){j:Int}{p:List aj}{x:aA}(e:G j=some (p,x))(w:s.T.rw ⟨j,[]⟩≠none){u:mZ}(z:u∈bI p x):
 ∃r,s.T.rw ⟨j,u.tk.M⟩=some r:=by
 obtain⟨l,t,d,rfl⟩:=(i7 _ _ (lR) _).1 z;have b:=fX _ _ _ d;rw[a.t.roots _ _ _ e] at b;simp only[List.nil_append] at b;obtain⟨r,c,_⟩:=(a.t.done_iff (λn r c=>(a.idle_over g v c).1) e w l t d).2 λq k A=>g _
 exact⟨r,by simp only;rw[b];exact c⟩
theorem aF.told_one(a:aF G s ex)(w:∀m,¬s.T.outs m)(v:s.idle){j:Int}{p:List aj}{x:aA}(e:G j=some (p,x))(D:∀z,G z≠none->z=j)(E:s.T.rw ⟨j,[]⟩≠none):C3 s.T.hist (bI p x) j (λ_=>False):=by
 refine⟨a.t.hnodup,λg q=>?_,λu F=>?_⟩
 ·obtain⟨⟨H,l⟩,k,y⟩:=g
  obtain⟨r,b,L,N,rfl,rfl⟩:=(a.t.hist _ _ _).1 q;obtain⟨R,S,C,P,Q⟩:=(a.t.row _ r b).node;have:=D _ (by rw[C];simp:G (⟨H,l⟩ :Nm).job≠none);simp only at this;subst this;obtain⟨u,c,A,d,K⟩:=a.t.hist_node e q;exact⟨⟨u,cS p u,(aW p u).length⟩,(i7 _ _ (lR) _).2 ⟨l,u,c,rfl⟩,by simp only;rw[A,d,K]⟩
 ·obtain⟨r,b⟩:=a.one_rows w v e E F
  obtain⟨c,A,d⟩:=a.idle_over w v b;exact⟨λ_ B=>B,λ_=>yL.2 ⟨_,(a.t.hist _ _ _).2 ⟨r,b,c,d,rfl,rfl⟩,rfl⟩⟩
end
section
variable {p:List aj}{f:Fr}{o:bQ}{t:aA}{y:aO}
theorem pj(f:Fr)(o:bQ):(f.joins o).1.kd=f.kd:=by
 unfold Fr.joins;split
 ·rfl
 ·simp only
  split
  ·rfl
  ·split<;>rfl
theorem mH(a:(f.joins o).2=some (.fork t)):False:=by
 unfold Fr.joins at a;split at a
 ·cases a
 ·simp only at a
  split at a
  ·cases a
  ·split at a<;>cases a
theorem nQ(q:∀(i:Nat) c,f.kd[i]?=some c->i<f.joined->c.given=true)(a:(f.joins o).2=some (.done y)):∀c∈f.kd,c.given=true:=by
 unfold Fr.joins at a;split at a
 ·cases a
 ·rename_i e
  intro c b;obtain⟨i,d⟩:=yF b
  by_cases g:i<f.joined
  ·exact q i c d g
  ·have l:c∈f.os:=by
    unfold Fr.os;refine yh (i:=i-f.joined) ?_;rw[zN,show f.joined+(i-f.joined)=i by omega];exact d
   cases b:c.given with
   |true=>rfl
   |false=>exact absurd (zT.2 ⟨c,l,by simp[b]⟩) e
theorem qK(a:(f.step p).2=some (.fork t)):∃c,(f.step p).1.kd=f.kd++ [c]/\c.given=false:=by
 unfold Fr.step at a ⊢;split at a
 ·cases a
 ·rename_i g
  rw[yb g];simp only at a ⊢;split at a
  ·rename_i e
   rw[yf e];unfold Fr.forks at a ⊢;split at a
   ·cases a
   ·rename_i b
    rw[yb b];split at a
    ·cases a
    ·rename_i d
     rw[yb d];exact⟨_,rfl,rfl⟩
  ·split at a
   ·exact(mH a).elim
   ·split at a<;>cases a
theorem pJ(d:∀(i:Nat) c,f.kd[i]?=some c->i<f.joined->c.given=true)(a:(f.step p).2=some (.done y))(b:y.e=0):∀c∈f.kd,c.given=true:=by
 unfold Fr.step at a;split at a
 ·cases a
  exact absurd b (by decide)
 ·simp only at a
  split at a
  ·unfold Fr.forks at a
   split at a
   ·cases a;exact absurd b (by decide)
   ·split at a
    ·cases a;exact absurd b (by decide)
    ·cases a
  ·split at a
   ·exact nQ (f:={f with left:=f.left-1,at_:=f.at_+1}) d a
   ·split at a
    ·cases a;exact absurd b (by decide)
    ·cases a
theorem pL{x:Fr×Option gT}(c:(bV x).2=.fork t):x.2=some (.fork t):=by
 obtain⟨a,b⟩:=x
 cases b with
 |none=>cases c
 |some s=>exact yl some c
theorem pK{x:Fr×Option gT}(c:(bV x).2=.done y):x.2=some (.done y):=by
 obtain⟨a,b⟩:=x
 cases b with
 |none=>cases c
 |some s=>exact yl some c
theorem xF(a:(f.run1 p).2=.fork t):∃c,(f.run1 p).1.kd=f.kd++ [c]/\c.given=false:=by
 unfold Fr.run1 at a ⊢;split at a
 ·exact qK (pL a)
 ·rename_i o _
  have b:=pj f o
  cases hj:f.joins o with
  |mk f' s=>
   rw[hj] at a b;simp only at a b ⊢
   cases s with
   |some s=>
    simp only at a;subst a;exact(mH (f:=f) (o:=o) (t:=t) (by rw[hj])).elim
   |none=>
    simp only at a ⊢;obtain⟨c,d,e⟩:=qK (pL a);exact⟨c,by rw[<-b];exact d,e⟩
theorem va{v:List aO}(d:fI f v)(a:(f.run1 p).2=.done y)(l:y.e=0):∀c∈f.kd,c.given=true:=by
 unfold Fr.run1 at a;split at a
 ·exact pJ d.old (pK a) l
 ·rename_i o u
  have e:=pj f o
  cases hj:f.joins o with
  |mk f' s=>
   rw[hj] at a e;simp only at a e
   cases s with
   |some s=>
    simp only at a;subst a;exact nQ d.old (by rw[hj])
   |none=>
    simp only at a
    rcases mG d (p:=p) o (.inr u) with⟨g,b,_⟩|⟨g,r,b,_⟩|⟨g,b,q,_⟩
    ·rw[hj] at b;cases b
    ·rw[hj] at b;cases b
    ·rw[hj] at b
     cases b
     have:=pJ q.old (pK a) l
     rwa [e] at this
end
structure kB(s:PS):Prop where
 given:∀n f i c,s.T.fm n=some f->f.kd[i]?=some c->c.given=true->∃r,s.T.rw (aD n i)=some r/\r.sa=6
 order:∀n k y a b,s.T.hist=a++(n,k,y) :: b->y.e=0->∀i,i<k->aD n i∈a.map (·.1)
section
variable {G:cG}{s s' s1:PS}{ex:Nm->Prop}{k j i:Nat}{n m:Nm}{r:aC}
theorem kB.ofT(b:kB s)(a:s'.T=s.T):kB s':=⟨by rw[a];exact b.given,by rw[a];exact b.order⟩
theorem qq(d:kB s)(k:Nat)(n:Nm):kB (dB s k n):=by
 unfold dB;split
 ·exact d
 ·rename_i r v
  split
  ·rename_i x
   refine⟨λm f i c u g l=>?_,d.order⟩
   have bX:∀m i,(∃r,s.T.rw (aD m i)=some r/\r.sa=6)->∃r',au s.T.rw n (some {r with sa:=2}) (aD m i)=some r'/\r'.sa=6:=λm i ⟨r',e,q⟩=>by
    by_cases b:aD m i=n
    ·rw[b,v] at e
     cases e
     omega
    ·exact⟨r',by rw[af _ _ b];exact e,q⟩
   refine bX m i ?_;have a:au s.T.fm n (some ((s.T.fm n).getD (Fr.begun (s.prog n.job) r.tk))) m=some f:=u
   by_cases b:m=n
   ·subst b
    rw[ax] at a
    cases hfr:s.T.fm m with
    |none=>
     rw[hfr] at a
     cases a
     simp[Fr.begun] at g
    |some w=>
     rw[hfr] at a
     cases a
     exact d.given _ _ _ _ hfr g l
   ·rw[af _ _ b] at a
    exact d.given _ _ _ _ a g l
  ·exact d
theorem mF(rows:Nm->Option aC)(n:Nm):∀(l:List Nat) (f:Fr) (i:Nat) (c:cD),(bG rows n l f).kd[i]?=some c->(∃c',f.kd[i]?=some c'/\(c=c'\/i∈l))
 | [],f,i,c,d=>⟨c,d,.inl rfl⟩
 |a :: l,f,i,c,d=>by
  simp only[bG] at d;obtain⟨c',b,g⟩:=mF rows n l _ i c d;simp only[Fr.give,zg] at b;split at b
  ·rename_i e
   subst e;split at b
   ·rename_i q
    exact⟨f.kd[a],gG q,.inr zh⟩
   ·cases b
  ·exact⟨c',b,g.imp id (yV _)⟩
theorem pV(q:kB s)(w:s.T.rw n=some r)(x:r.sa=2){st:Nat}{f':Fr}(v:∀i c,f'.kd[i]?=some c->c.given=true->∃r,s.T.rw (aD n i)=some r/\r.sa=6):∀m f i c,(gN s.T n r st f').fm m=some f->f.kd[i]?=some c->c.given=true->∃r',(gN s.T n r st f').rw (aD m i)=some r'/\r'.sa=6:=by
 intro m f i c a g l
 have bX:∀m i,(∃r,s.T.rw (aD m i)=some r/\r.sa=6)->∃r',au s.T.rw n (some {r with sa:=st}) (aD m i)=some r'/\r'.sa=6:=λm i ⟨r',d,u⟩=>by
  by_cases a:aD m i=n
  ·rw[a,w] at d
   cases d
   omega
  ·exact⟨r',by rw[af _ _ a];exact d,u⟩
 refine bX m i ?_;have b:au s.T.fm n (some f') m=some f:=a
 by_cases e:m=n
 ·subst e
  rw[ax] at b
  cases b
  exact v i c g l
 ·rw[af _ _ e] at b
  exact q.given _ _ _ _ b g l
theorem sN(g:kB s)(N:aF G s ex)(b5:∀m,s.known m=none)(aE:∀m,s.away m=false)(b8:∀m,¬s.T.outs m)(b4:k<s.ths.length){am:Nat}(A:cL s k am s'):kB s':=by
 unfold cL at A;split at A
 ·obtain⟨x,a,s1,a8,A⟩:=A
  obtain⟨bm,ws',l,_⟩:=a8.ex;have e:kB s1:=g.ofT (by rw[l]);split at A
  ·rw[A];exact e
  ·rw[A]
   unfold ij;simp only;split
   ·exact e.ofT rfl
   ·split
    ·exact qq (kB.ofT (s:=s1) (s':=s1.setTh k {s1.th k with act:=none,kn:=0}) e rfl) _ _
    ·split
     ·exact qq (kB.ofT (s:=s1) (s':={s1.setTh k {s1.th k with act:=none,kn:=0} with queue:=s1.queue.tail}) e rfl) _ _
     ·split
      ·exact e.ofT rfl
      ·exact e.ofT rfl
 ·split at A
  ·rename_i ba
   rw[A];have b3:=eU (d:=kY) b4;obtain⟨r,p,x,f,v,Y,aw,az,S,L,Z⟩:=N.current b3 ba;change s.T.rw (s.th k).cur=some r at v;change s.T.fm (s.th k).cur=some f at S;change s.prog (s.th k).cur.job=p at Z;generalize bc:s.th k=th at v aw az S Z;have W:kD p f (iH p r.tk r.kn) (f.run1 p):=jb L.ok L.res;have Q:∀i c,f.kd[i]?=some c->c.given=true->∃r,s.T.rw (aD th.cur i)=some r/\r.sa=6:=λi c u w=>g.given _ _ _ _ S u w
   unfold eA;rw[bc,v,S];simp only;rw[Z];split
   ·rename_i C
    refine⟨pV g v Y ?_,g.order⟩;rw[(W.mo C).2.2.2.1];exact Q
   ·rename_i t C
    have a1:f.run1 p=((f.run1 p).1,.fork t):=by rw[<-C]
    obtain⟨bo,bk,bp⟩:=ke N.t v L (a1 ▸ W);obtain⟨al,an,ar⟩:=xF C
    have b0:∀H:aC,∀m K i c,(bB s.T th.cur r (f.run1 p).1 H).fm m=some K->K.kd[i]?=some c->c.given=true->∃r',(bB s.T th.cur r (f.run1 p).1 H).rw (aD m i)=some r'/\r'.sa=6:=by
     intro H m K i c a3 u w
     have bX:∀m i,(∃r,s.T.rw (aD m i)=some r/\r.sa=6)->∃r',(bB s.T th.cur r (f.run1 p).1 H).rw (aD m i)=some r'/\r'.sa=6:=λm i ⟨r',e,E⟩=>by
      unfold bB;simp only;have bf:aD m i≠aD th.cur r.kn:=λl=>by rw[l,bk] at e;cases e
      have D:aD m i≠th.cur:=λl=>by rw[l,v] at e;cases e;omega
      exact⟨r',by rw[af _ _ bf,af _ _ D];exact e,E⟩
     refine bX m i ?_;have B:au s.T.fm th.cur (some (f.run1 p).1) m=some K:=a3
     by_cases P:m=th.cur
     ·subst P
      rw[ax] at B
      cases B
      rw[an] at u
      by_cases F:i<f.kd.length
      ·rw[yi F] at u
       exact Q i c u w
      ·rw[yK (yA F)] at u
       have:c=al:=by
        have:=yh u
        simpa using this
       rw[this,ar] at w
       cases w
     ·rw[af _ _ P] at B
      exact g.given _ _ _ _ B u w
    unfold gW;rw[b5];simp only;rw[yb (by rw[aE];decide)];exact kB.ofT (s:={s with T:=bB s.T th.cur r (f.run1 p).1 ⟨t,1,0,⟨0,0⟩,true,0,false⟩}) ⟨b0 _,g.order⟩ rfl
   ·rename_i C
    have ab:=(W.join C).2.2.2.1;split
    ·refine⟨pV g v Y ?_,g.order⟩
     rw[ab];exact Q
    ·rename_i b6
     have b6:r.opn=0:=by omega
     refine⟨pV g v Y ?_,g.order⟩;intro i c u w;obtain⟨c',e,E⟩:=mF _ _ _ _ _ _ u;rw[ab] at e
     rcases E with l|bn
     ·subst l
      exact Q i _ e w
     ·have F:i<r.kn:=by
       have:=(gS e).1
       rwa [L.kd] at this
      have b7:=lW (rows:=s.T.rw) (n:=th.cur) (kn:=r.kn) (by have:=(N.t.row _ r v).opn;omega) i F;obtain⟨_,_,H,_,_,R,_⟩:=N.t.child v F;refine⟨H,R,?_⟩
      simpa[bZ,R] using b7
   ·rename_i y C
    have a8:=W.done y C
    have a7:kB {s with T:=bh s.T th.cur r y true,ths:=s.ths.set k {th with cur:=fS,run:=false}}:=by
     have b9:∀m i,(∃r,s.T.rw (aD m i)=some r/\r.sa=6)->∃r',(bh s.T th.cur r y true).rw (aD m i)=some r'/\r'.sa=6:=λm i ⟨r',e,E⟩=>by
      have D:aD m i≠th.cur:=λl=>by rw[l,v] at e;cases e;omega
      unfold bh;simp only
      cases hfk:r.fk with
      |false=>exact⟨r',by simp only;rw[af _ _ D];exact e,E⟩
      |true=>cases hq:s.T.rw (dd th.cur) with
       |none=>exact⟨r',by simp only;rw[af _ _ D];exact e,E⟩
       |some q=>
        simp only
        by_cases l:aD m i=dd th.cur
        ·rw[l] at e ⊢
         rw[hq] at e
         cases e
         refine⟨_,ax _ _ _,?_⟩;unfold eD;simp only;rw[yb (by omega)];exact E
        ·exact⟨r',by rw[af _ _ l,af _ _ D];exact e,E⟩
     refine⟨λm K i c a3 u w=>b9 m i ?_,?_⟩
     ·have B:au s.T.fm th.cur none m=some K:=a3
      by_cases P:m=th.cur
      ·subst P
       rw[ax] at B
       cases B
      ·rw[af _ _ P] at B
       exact g.given _ _ _ _ B u w
     ·intro D a4 a5 a b a1 ad i F
      have a2:s.T.hist++ [(th.cur,r.kn,y)] =a++(D,a4,a5) :: b:=a1
      rcases List.eq_nil_or_concat b with a0|⟨a6,z,a0⟩
      ·subst a0
       have V:=List.append_inj' a2 rfl;have av:=(List.cons.inj V.2).1
       cases av
       rw[<-V.1];have b1:=va L.ok C ad;have a9:i<f.kd.length:=by rw[L.kd];exact F
       obtain⟨X,ai,R⟩:=Q i f.kd[i] (gG a9) (b1 _ (yN a9))
       have b2:X.here=true:=by
        obtain⟨_,_,_,_,bb⟩:=(N.t.row _ X ai).node
        cases hhe:X.here with
        |true=>rfl
        |false=>exact absurd (bb.O.2 (.inr ⟨R,hhe⟩)) (b8 _)
       exact yL.2 ⟨_,(N.t.hist _ _ _).2 ⟨X,ai,R,b2,rfl,rfl⟩,rfl⟩
      ·rw[a0] at a2
       have:s.T.hist++ [(th.cur,r.kn,y)] =(a++(D,a4,a5) :: a6)++ [z]:=by rw[a2];simp
       have V:=List.append_inj' this rfl;exact g.order D a4 a5 a a6 V.1 ad i F
    split
    ·exact a7.ofT rfl
    ·exact a7
  ·rw[A]
   exact g.ofT rfl
end
end
section
def cP:List aj:=[⟨1,2,[⟨12,1,0,0,1⟩,⟨13,0,0,0,0⟩,⟨3,1,1,1,0⟩,⟨14,0,1,0,0⟩]⟩,⟨1,1,[⟨14,0,0,0,0⟩]⟩]
def mD:aA:=⟨[],0,[4],20⟩
def jp:aA:=⟨[1],1,[4],9⟩
theorem sF{p:List aj}{path:List UInt8}{fn at_:Int}{l kids:Nat}{regs:List Int}{ws:List (Int×aO)}(b:(dO p fn at_).k=14)(c:fz ws=0):da p path fn (l+1) regs at_ kids ws=(⟨cI (fc ws regs) (dO p fn at_).a,0⟩,[]):=by
 rw[da];simp only[b,c];simp
theorem xI{p:List aj}{path:List UInt8}{fn at_:Int}{l kids:Nat}{regs:List Int}{ws:List (Int×aO)}(a:(dO p fn at_).k=13)(b:fz ws=0):da p path fn (l+1) regs at_ kids ws=da p path fn l (fc ws regs) (at_+1) kids []:=by
 rw[da];simp only[a,b];simp
theorem Bn{p:List aj}{path:List UInt8}{fn at_:Int}{l kids:Nat}{regs:List Int}{ws:List (Int×aO)}(c:(dO p fn at_).k=3):da p path fn (l+1) regs at_ kids ws=da p path fn l (iX regs (dO p fn at_).d (IntKind.i64.wrap (cI regs (dO p fn at_).a+cI regs (dO p fn at_).b))) (at_+1) kids ws:=by
 rw[da];simp only[c,gj,jY];simp
theorem xH{p:List aj}{path:List UInt8}{fn at_:Int}{l kids:Nat}{regs:List Int}{ws:List (Int×aO)}(a:(dO p fn at_).k=12)(b:¬16<=kids)(c:¬12<=path.length)(t:aA)(e:t=dK p path kids (dO p fn at_) regs l)(x:aO)(g:x=(da p t.M t.fn (l / 2) (iR p t.fn t.args) 0 0 []).1):
 da p path fn (l+1) regs at_ kids ws=((da p path fn (l-l / 2) regs (at_+1) (kids+1) (ws++ [((dO p fn at_).d,x)])).1,t :: (da p path fn (l-l / 2) regs (at_+1) (kids+1) (ws++ [((dO p fn at_).d,x)])).2):=by
 subst g e;rw[da];simp only[a,b,c,yR,Yi]
theorem qu:oD cP jp=(⟨4,0⟩,[]):=sF (l:=8) (p:=cP) (path:=[1]) (fn:=1) (at_:=0) (regs:=[4]) (ws:=[]) rfl rfl
theorem qw:oD cP mD=(⟨8,0⟩,[jp]):=by
 have d:da cP [] 0 8 [4,8] 3 1 [] =(⟨8,0⟩,[]):=sF (l:=7) rfl rfl;have c:da cP [] 0 9 [4,4] 2 1 [] =(⟨8,0⟩,[]):=(Bn (l:=8) rfl).trans d;have b:da cP [] 0 10 [4,0] 1 1 [(1,⟨4,0⟩)] =(⟨8,0⟩,[]):=(xI (l:=9) rfl rfl).trans c;have a:=xH (p:=cP) (path:=[]) (fn:=0) (at_:=0) (l:=19) (kids:=0) (regs:=[4,0]) (ws:=[]) rfl (by decide) (by decide) jp rfl ⟨4,0⟩ (by rw[show(⟨4,0⟩ :aO)=(oD cP jp).1 by rw[qu]];rfl);refine(show oD cP mD=da cP [] 0 (19+1) [4,0] 0 0 [] from rfl).trans (a.trans ?_);show((da cP [] 0 10 [4,0] 1 1 [(1,⟨4,0⟩)]).1,jp :: (da cP [] 0 10 [4,0] 1 1 [(1,⟨4,0⟩)]).2)=_;rw[b]
theorem td:bI cP mD= [⟨mD,⟨8,0⟩,1⟩,⟨jp,⟨4,0⟩,0⟩]:=by
 have a:bI cP jp= [⟨jp,⟨4,0⟩,0⟩]:=by
  rw[dV];unfold cS aW;rw[qu];rfl
 rw[dV];unfold cS aW;rw[qw];simp[a]
end
end Go.Proofs.YtmdocplknceilaaGreat
