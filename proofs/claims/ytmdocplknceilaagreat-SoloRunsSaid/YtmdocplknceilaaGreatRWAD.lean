import Derived.Test.YtmdocplknceilaaGreatRWAC
set_option linter.all false
namespace Go.Proofs.YtmdocplknceilaaGreat
section
open Classical
structure fY(s s':PS):Prop where
 known:s'.known=s.known
 away:s'.away=s.away
 outs:s'.T.outs=s.T.outs
 progs:s'.progs=s.progs
 roots:s'.roots=s.roots
 c0:s'.ds.map aT.c0=s.ds.map aT.c0
section
variable {G:dg}{s s' s1 s2:PS}{ex:Nm->Prop}{k j i:Nat}{n m:Nm}{r:aG}
theorem fY.refl(s:PS):fY s s:=⟨rfl,rfl,rfl,rfl,rfl,rfl⟩
theorem fY.trans(a:fY s s1)(q:fY s1 s2):fY s s2:=⟨q.known.trans a.known,q.away.trans a.away,q.outs.trans a.outs,q.progs.trans a.progs,q.roots.trans a.roots,q.c0.trans a.c0⟩
theorem qP{l:List aT}{i:Nat}{y:aT}(c:∀x,l[i]?=some x->y.c0=x.c0):(l.set i y).map aT.c0=l.map aT.c0:=by
 apply zt;intro j;rw[yJ,yJ,zg];split
 ·rename_i b
  subst b;split
  ·rename_i a
   rw[gG a];simp only[yU,yC];exact c _ (gG a)
  ·rename_i a
   rw[zv (yA a)]
 ·rfl
theorem pO(s:PS)(k:Nat)(n:Nm):fY s (dX s k n):=by
 unfold dX;split
 ·exact fY.refl s
 ·split
  ·exact⟨rfl,rfl,rfl,rfl,rfl,rfl⟩
  ·exact fY.refl s
theorem ry(s:PS)(k:Nat)(n:Nm):fY s (eJ s k n):=
 ⟨rfl,rfl,rfl,rfl,rfl,qP λx a=>by rw[PS.dq_eq a];rfl⟩
theorem wG(s:PS)(k:Nat)(n:Nm)(r:aG)(f:Fr)(t:aj):fY s (i5 s k n r f t):=by
 have a:∀c,fY s {s with T:=bQ s.T n r f c}:=λc=>⟨rfl,rfl,rfl,rfl,rfl,rfl⟩
 unfold i5;split
 ·exact a _
 ·split
  ·exact a _
  ·exact(a _).trans (ry _ _ _)
theorem Ca(s:PS)(k:Nat):fY s (fi s k):=by
 unfold fi;split
 ·simp only
  split
  ·exact⟨rfl,rfl,rfl,rfl,rfl,rfl⟩
  ·exact wG _ _ _ _ _ _
  ·split<;>exact⟨rfl,rfl,rfl,rfl,rfl,rfl⟩
  ·have a:∀n r x ths,fY s {s with T:=bI s.T n r x true,ths:=ths}:=λn r x ths=>⟨rfl,rfl,rfl,rfl,rfl,rfl⟩
   split
   ·exact(a _ _ _ _).trans (ry _ _ _)
   ·exact a _ _ _ _
 ·exact fY.refl s
theorem nN{q:Nat}(b:dt s k q s'):fY s s':=by
 unfold dt at b;split at b
 ·obtain⟨x,a,s1,g,b⟩:=b
  obtain⟨w,ws',v,_⟩:=g.ex
  have e:fY s s1:=by
   rw[v];exact⟨rfl,rfl,rfl,rfl,rfl,qP λy l=>by rw[g.hx] at l;cases l;rfl⟩
  have c:∀(u:PS) (th:Th),fY u (u.setTh k th):=λu th=>⟨rfl,rfl,rfl,rfl,rfl,rfl⟩
  split at b
  ·rw[b];exact e
  ·rw[b]
   refine e.trans ?_;unfold jg;simp only;split
   ·exact c _ _
   ·split
    ·exact(c _ _).trans (pO _ _ _)
    ·split
     ·refine fY.trans ?_ (pO _ _ _)
      exact⟨rfl,rfl,rfl,rfl,rfl,rfl⟩
     ·split
      ·refine(c s1 {s1.th k with act:=none,kn:=0}).trans ?_
       exact⟨rfl,rfl,rfl,rfl,rfl,qP λx d=>by rw[PS.dq_eq d];rfl⟩
      ·exact c _ _
 ·split at b
  ·rw[b];exact Ca s k
  ·rw[b]
   exact⟨rfl,rfl,rfl,rfl,rfl,qP λx d=>by rw[PS.dq_eq d];rfl⟩
structure ql(G:dg)(s:PS):Prop where
 inv:aK G s (λ_=>False)
 ex:iY s<=0
 c0:∀x∈s.ds,x.c0<=256
 th:s.ths.length<=8
theorem ql.step(a:ql G s)(g:k<s.ths.length){d:Nat}(b:dt s k d s'):ql G s':=by
 refine⟨a.inv.step g b,Ya (DP b) a.ex,λx l=>?_,by rw[nO b];exact a.th⟩;have c:x.c0∈s'.ds.map aT.c0:=yL.2 ⟨x,l,rfl⟩;rw[(nN b).c0] at c;obtain⟨y,q,e⟩:=yL.1 c;rw[<-e];exact a.c0 y q
theorem rF:∀(l:List aT),(∀x∈l,x.own<=260+6*x.P)->(l.map aT.own).sum<=260*(l.length:Int)+6*(l.map aT.P).sum
 | [],_=>by simp
 |a :: l,b=>by
  have d:=b a (by simp);have e:=rF l λx c=>b x (by simp[c])
  simp only[zc,zH,zo];omega
theorem ql.bd(b:ql G s)(A:s.T.ks.length<=1100):(∀x∈s.ds,x.P<=10000/\x.N<=20000)/\s.C.length<=45000:=by
 have B:=b.inv.t.hist_le;have d:=b.ex;unfold iY at d
 have c:∀x∈s.ds,0<=x.P/\x.own<=4-2*x.c0+3*x.N/\1<=x.c0:=λx a=>by
  obtain⟨i,e⟩:=yF a;have:=pW b.inv.many e;exact⟨this.1,this.2,b.inv.many.c0s i x e⟩
 have u:∀x∈s.ds,x.P<=mL s.ds:=λx a=>sd (f:=aT.P) _ (λy v=>(c y v).1) a
 constructor
 ·intro x a
  have g:=u x a;have l:=b.c0 x a;have q:=(c x a).1;refine⟨by omega,?_⟩;unfold aT.N;omega
 ·have g:=b.inv.many.sum
  have l:=rF s.ds λx a=>by
   obtain⟨D,w,E⟩:=c x a;have:=b.c0 x a;unfold aT.N at w;omega
  have q:=b.inv.nlen;have z:=b.th;unfold mL at d;omega
theorem rm{rows:Nm->Option aG}{n:Nm}:∀{kn:Nat},(∀i,i<kn->cI rows (aH n i)=false)->dY rows n kn=0
 |0,_=>rfl
 |kn+1,a=>by
  rw[lu,rm λi b=>a i (by omega),a kn (by omega)];rfl
theorem aK.idle_over(b:aK G s ex)(l:∀m,¬s.T.outs m)(g:s.idle){n:Nm}{r:aG}(a:s.T.rw n=some r):r.sa=6/\r.opn=0/\r.here=true:=by
 have u:∀n r,s.T.rw n=some r->r.sa≠5:=λn r a q=>by
  obtain⟨p,x,_,_,e⟩:=(b.t.row n r a).node;exact l n (e.O.2 (.inl q))
 have d:=b.t.waits_away g u;obtain⟨p,x,_,_,e⟩:=(b.t.row n r a).node;refine⟨d n r a,?_,?_⟩
 ·rw[(b.t.row n r a).opn,rm λi g=>?_]
  ·rfl
  ·unfold cI
   cases hc:s.T.rw (aH n i) with
   |none=>rfl
   |some c=>simp[d _ c hc]
 ·cases hh:r.here with
  |true=>rfl
  |false=>exact absurd (e.O.2 (.inr ⟨d n r a,hh⟩)) (l n)
structure Ff(got:List (Nm×Nat×aL))(want:List eC)(job:Int)(but:List UInt8->Prop):Prop where
 nodup:(got.map (·.1)).Nodup
 sound:∀g∈got,∃u∈want,g=(⟨job,u.tk.M⟩,u.kd,u.res)
 all:∀u∈want,((⟨job,u.tk.M⟩ :Nm)∈got.map (·.1)↔¬but u.tk.M)
theorem aK.one_rows(a:aK G s ex)(g:∀m,¬s.T.outs m)(v:s.idle){j:Int}{p:List ah}{x:aj}(e:G j=some (p,x))(w:s.T.rw ⟨j,[]⟩≠none){u:eC}(z:u∈aF p x):
 ∃r,s.T.rw ⟨j,u.tk.M⟩=some r:=by
 obtain⟨l,t,d,rfl⟩:=(jT _ _ (lR) _).1 z;have b:=io _ _ _ d;rw[a.t.roots _ _ _ e] at b;simp only[List.nil_append] at b;obtain⟨r,c,_⟩:=(a.t.done_iff (λn r c=>(a.idle_over g v c).1) e w l t d).2 λq k A=>g _
 exact⟨r,by simp only;rw[b];exact c⟩
theorem aK.told_one(a:aK G s ex)(w:∀m,¬s.T.outs m)(v:s.idle){j:Int}{p:List ah}{x:aj}(e:G j=some (p,x))(D:∀z,G z≠none->z=j)(E:s.T.rw ⟨j,[]⟩≠none):Ff s.T.hist (aF p x) j (λ_=>False):=by
 refine⟨a.t.hnodup,λg q=>?_,λu F=>?_⟩
 ·obtain⟨⟨H,l⟩,k,y⟩:=g
  obtain⟨r,b,L,N,rfl,rfl⟩:=(a.t.hist _ _ _).1 q;obtain⟨R,S,C,P,Q⟩:=(a.t.row _ r b).node;have:=D _ (by rw[C];simp:G (⟨H,l⟩ :Nm).job≠none);simp only at this;subst this;obtain⟨u,c,A,d,K⟩:=a.t.hist_node e q;exact⟨⟨u,bw p u,(aR p u).length⟩,(jT _ _ (lR) _).2 ⟨l,u,c,rfl⟩,by simp only;rw[A,d,K]⟩
 ·obtain⟨r,b⟩:=a.one_rows w v e E F
  obtain⟨c,A,d⟩:=a.idle_over w v b;exact⟨λ_ B=>B,λ_=>yL.2 ⟨_,(a.t.hist _ _ _).2 ⟨r,b,c,d,rfl,rfl⟩,rfl⟩⟩
end
section
variable {p:List ah}{f:Fr}{o:bK}{t:aj}{y:aL}
theorem rf(f:Fr)(o:bK):(f.joins o).1.kd=f.kd:=by
 unfold Fr.joins;split
 ·rfl
 ·simp only
  split
  ·rfl
  ·split<;>rfl
theorem oH(a:(f.joins o).2=some (.fork t)):False:=by
 unfold Fr.joins at a;split at a
 ·cases a
 ·simp only at a
  split at a
  ·cases a
  ·split at a<;>cases a
theorem pV(q:∀(i:Nat) c,f.kd[i]?=some c->i<f.joined->c.given=true)(a:(f.joins o).2=some (.done y)):∀c∈f.kd,c.given=true:=by
 unfold Fr.joins at a;split at a
 ·cases a
 ·rename_i e
  intro c b;obtain⟨i,d⟩:=yF b
  by_cases g:i<f.joined
  ·exact q i c d g
  ·have l:c∈f.os:=by
    unfold Fr.os;refine yh (i:=i-f.joined) ?_;rw[zN,show f.joined+(i-f.joined)=i by omega];exact d
   cases b:c.given with
   |true=>rfl
   |false=>exact absurd (zT.2 ⟨c,l,by simp[b]⟩) e
theorem sN(a:(f.step p).2=some (.fork t)):∃c,(f.step p).1.kd=f.kd++ [c]/\c.given=false:=by
 unfold Fr.step at a ⊢;split at a
 ·cases a
 ·rename_i g
  rw[yb g];simp only at a ⊢;split at a
  ·rename_i e
   rw[yf e];unfold Fr.forks at a ⊢;split at a
   ·cases a
   ·rename_i b
    rw[yb b];split at a
    ·cases a
    ·rename_i d
     rw[yb d];exact⟨_,rfl,rfl⟩
  ·split at a
   ·exact(oH a).elim
   ·split at a<;>cases a
theorem rC(d:∀(i:Nat) c,f.kd[i]?=some c->i<f.joined->c.given=true)(a:(f.step p).2=some (.done y))(b:y.e=0):∀c∈f.kd,c.given=true:=by
 unfold Fr.step at a;split at a
 ·cases a
  exact absurd b (by decide)
 ·simp only at a
  split at a
  ·unfold Fr.forks at a
   split at a
   ·cases a;exact absurd b (by decide)
   ·split at a
    ·cases a;exact absurd b (by decide)
    ·cases a
  ·split at a
   ·exact pV (f:={f with left:=f.left-1,at_:=f.at_+1}) d a
   ·split at a
    ·cases a;exact absurd b (by decide)
    ·cases a
theorem rE{x:Fr×Option iX}(c:(cz x).2=.fork t):x.2=some (.fork t):=by
 obtain⟨a,b⟩:=x
 cases b with
 |none=>cases c
 |some s=>exact yl some c
theorem rD{x:Fr×Option iX}(c:(cz x).2=.done y):x.2=some (.done y):=by
 obtain⟨a,b⟩:=x
 cases b with
 |none=>cases c
 |some s=>exact yl some c
theorem B4(a:(f.run1 p).2=.fork t):∃c,(f.run1 p).1.kd=f.kd++ [c]/\c.given=false:=by
 unfold Fr.run1 at a ⊢;split at a
 ·exact sN (rE a)
 ·rename_i o _
  have b:=rf f o
  cases hj:f.joins o with
  |mk f' s=>
   rw[hj] at a b;simp only at a b ⊢
   cases s with
   |some s=>
    simp only at a;subst a;exact(oH (f:=f) (o:=o) (t:=t) (by rw[hj])).elim
   |none=>
    simp only at a ⊢;obtain⟨c,d,e⟩:=sN (rE a);exact⟨c,by rw[<-b];exact d,e⟩
theorem xz{v:List aL}(d:gK f v)(a:(f.run1 p).2=.done y)(l:y.e=0):∀c∈f.kd,c.given=true:=by
 unfold Fr.run1 at a;split at a
 ·exact rC d.old (rD a) l
 ·rename_i o u
  have e:=rf f o
  cases hj:f.joins o with
  |mk f' s=>
   rw[hj] at a e;simp only at a e
   cases s with
   |some s=>
    simp only at a;subst a;exact pV d.old (by rw[hj])
   |none=>
    simp only at a
    rcases oF d (p:=p) o (.inr u) with⟨g,b,_⟩|⟨g,r,b,_⟩|⟨g,b,q,_⟩
    ·rw[hj] at b;cases b
    ·rw[hj] at b;cases b
    ·rw[hj] at b
     cases b
     have:=rC q.old (rD a) l
     rwa [e] at this
end
structure lK(s:PS):Prop where
 given:∀n f i c,s.T.fm n=some f->f.kd[i]?=some c->c.given=true->∃r,s.T.rw (aH n i)=some r/\r.sa=6
 order:∀n k y a b,s.T.hist=a++(n,k,y) :: b->y.e=0->∀i,i<k->aH n i∈a.map (·.1)
section
variable {G:dg}{s s' s1:PS}{ex:Nm->Prop}{k j i:Nat}{n m:Nm}{r:aG}
theorem lK.ofT(b:lK s)(a:s'.T=s.T):lK s':=⟨by rw[a];exact b.given,by rw[a];exact b.order⟩
theorem sj(d:lK s)(k:Nat)(n:Nm):lK (dX s k n):=by
 unfold dX;split
 ·exact d
 ·rename_i r v
  split
  ·rename_i x
   refine⟨λm f i c u g l=>?_,d.order⟩
   have cE:∀m i,(∃r,s.T.rw (aH m i)=some r/\r.sa=6)->∃r',ax s.T.rw n (some {r with sa:=2}) (aH m i)=some r'/\r'.sa=6:=λm i ⟨r',e,q⟩=>by
    by_cases b:aH m i=n
    ·rw[b,v] at e
     cases e
     omega
    ·exact⟨r',by rw[ag _ _ b];exact e,q⟩
   refine cE m i ?_;have a:ax s.T.fm n (some ((s.T.fm n).getD (Fr.begun (s.prog n.job) r.tk))) m=some f:=u
   by_cases b:m=n
   ·subst b
    rw[ay] at a
    cases hfr:s.T.fm m with
    |none=>
     rw[hfr] at a
     cases a
     simp[Fr.begun] at g
    |some w=>
     rw[hfr] at a
     cases a
     exact d.given _ _ _ _ hfr g l
   ·rw[ag _ _ b] at a
    exact d.given _ _ _ _ a g l
  ·exact d
theorem oE(rows:Nm->Option aG)(n:Nm):∀(l:List Nat) (f:Fr) (i:Nat) (c:cZ),(bU rows n l f).kd[i]?=some c->(∃c',f.kd[i]?=some c'/\(c=c'\/i∈l))
 | [],f,i,c,d=>⟨c,d,.inl rfl⟩
 |a :: l,f,i,c,d=>by
  simp only[bU] at d;obtain⟨c',b,g⟩:=oE rows n l _ i c d;simp only[Fr.give,zg] at b;split at b
  ·rename_i e
   subst e;split at b
   ·rename_i q
    exact⟨f.kd[a],gG q,.inr zh⟩
   ·cases b
  ·exact⟨c',b,g.imp id (yV _)⟩
theorem rQ(q:lK s)(w:s.T.rw n=some r)(x:r.sa=2){st:Nat}{f':Fr}(v:∀i c,f'.kd[i]?=some c->c.given=true->∃r,s.T.rw (aH n i)=some r/\r.sa=6):∀m f i c,(iQ s.T n r st f').fm m=some f->f.kd[i]?=some c->c.given=true->∃r',(iQ s.T n r st f').rw (aH m i)=some r'/\r'.sa=6:=by
 intro m f i c a g l
 have cE:∀m i,(∃r,s.T.rw (aH m i)=some r/\r.sa=6)->∃r',ax s.T.rw n (some {r with sa:=st}) (aH m i)=some r'/\r'.sa=6:=λm i ⟨r',d,u⟩=>by
  by_cases a:aH m i=n
  ·rw[a,w] at d
   cases d
   omega
  ·exact⟨r',by rw[ag _ _ a];exact d,u⟩
 refine cE m i ?_;have b:ax s.T.fm n (some f') m=some f:=a
 by_cases e:m=n
 ·subst e
  rw[ay] at b
  cases b
  exact v i c g l
 ·rw[ag _ _ e] at b
  exact q.given _ _ _ _ b g l
theorem uP(g:lK s)(N:aK G s ex)(b5:∀m,s.known m=none)(aE:∀m,s.away m=false)(b8:∀m,¬s.T.outs m)(b4:k<s.ths.length){am:Nat}(A:dt s k am s'):lK s':=by
 unfold dt at A;split at A
 ·obtain⟨x,a,s1,a8,A⟩:=A
  obtain⟨bm,ws',l,_⟩:=a8.ex;have e:lK s1:=g.ofT (by rw[l]);split at A
  ·rw[A];exact e
  ·rw[A]
   unfold jg;simp only;split
   ·exact e.ofT rfl
   ·split
    ·exact sj (lK.ofT (s:=s1) (s':=s1.setTh k {s1.th k with act:=none,kn:=0}) e rfl) _ _
    ·split
     ·exact sj (lK.ofT (s:=s1) (s':={s1.setTh k {s1.th k with act:=none,kn:=0} with queue:=s1.queue.tail}) e rfl) _ _
     ·split
      ·exact e.ofT rfl
      ·exact e.ofT rfl
 ·split at A
  ·rename_i ba
   rw[A];have b3:=fK (d:=mB) b4;obtain⟨r,p,x,f,v,Y,aw,az,S,L,Z⟩:=N.current b3 ba;change s.T.rw (s.th k).cur=some r at v;change s.T.fm (s.th k).cur=some f at S;change s.prog (s.th k).cur.job=p at Z;generalize bc:s.th k=th at v aw az S Z;have W:lO p f (jB p r.tk r.kn) (f.run1 p):=jX L.ok L.res;have Q:∀i c,f.kd[i]?=some c->c.given=true->∃r,s.T.rw (aH th.cur i)=some r/\r.sa=6:=λi c u w=>g.given _ _ _ _ S u w
   unfold fi;rw[bc,v,S];simp only;rw[Z];split
   ·rename_i C
    refine⟨rQ g v Y ?_,g.order⟩;rw[(W.mo C).2.2.2.1];exact Q
   ·rename_i t C
    have a1:f.run1 p=((f.run1 p).1,.fork t):=by rw[<-C]
    obtain⟨bo,bk,bp⟩:=lp N.t v L (a1 ▸ W);obtain⟨al,an,ar⟩:=B4 C
    have b0:∀H:aG,∀m K i c,(bQ s.T th.cur r (f.run1 p).1 H).fm m=some K->K.kd[i]?=some c->c.given=true->∃r',(bQ s.T th.cur r (f.run1 p).1 H).rw (aH m i)=some r'/\r'.sa=6:=by
     intro H m K i c a3 u w
     have cE:∀m i,(∃r,s.T.rw (aH m i)=some r/\r.sa=6)->∃r',(bQ s.T th.cur r (f.run1 p).1 H).rw (aH m i)=some r'/\r'.sa=6:=λm i ⟨r',e,E⟩=>by
      unfold bQ;simp only;have bf:aH m i≠aH th.cur r.kn:=λl=>by rw[l,bk] at e;cases e
      have D:aH m i≠th.cur:=λl=>by rw[l,v] at e;cases e;omega
      exact⟨r',by rw[ag _ _ bf,ag _ _ D];exact e,E⟩
     refine cE m i ?_;have B:ax s.T.fm th.cur (some (f.run1 p).1) m=some K:=a3
     by_cases P:m=th.cur
     ·subst P
      rw[ay] at B
      cases B
      rw[an] at u
      by_cases F:i<f.kd.length
      ·rw[yi F] at u
       exact Q i c u w
      ·rw[yK (yA F)] at u
       have:c=al:=by
        have:=yh u
        simpa using this
       rw[this,ar] at w
       cases w
     ·rw[ag _ _ P] at B
      exact g.given _ _ _ _ B u w
    unfold i5;rw[b5];simp only;rw[yb (by rw[aE];decide)];exact lK.ofT (s:={s with T:=bQ s.T th.cur r (f.run1 p).1 ⟨t,1,0,⟨0,0⟩,true,0,false⟩}) ⟨b0 _,g.order⟩ rfl
   ·rename_i C
    have ab:=(W.join C).2.2.2.1;split
    ·refine⟨rQ g v Y ?_,g.order⟩
     rw[ab];exact Q
    ·rename_i b6
     have b6:r.opn=0:=by omega
     refine⟨rQ g v Y ?_,g.order⟩;intro i c u w;obtain⟨c',e,E⟩:=oE _ _ _ _ _ _ u;rw[ab] at e
     rcases E with l|bn
     ·subst l
      exact Q i _ e w
     ·have F:i<r.kn:=by
       have:=(gS e).1
       rwa [L.kd] at this
      have b7:=nC (rows:=s.T.rw) (n:=th.cur) (kn:=r.kn) (by have:=(N.t.row _ r v).opn;omega) i F;obtain⟨_,_,H,_,_,R,_⟩:=N.t.child v F;refine⟨H,R,?_⟩
      simpa[cI,R] using b7
   ·rename_i y C
    have a8:=W.done y C
    have a7:lK {s with T:=bI s.T th.cur r y true,ths:=s.ths.set k {th with cur:=gY,run:=false}}:=by
     have b9:∀m i,(∃r,s.T.rw (aH m i)=some r/\r.sa=6)->∃r',(bI s.T th.cur r y true).rw (aH m i)=some r'/\r'.sa=6:=λm i ⟨r',e,E⟩=>by
      have D:aH m i≠th.cur:=λl=>by rw[l,v] at e;cases e;omega
      unfold bI;simp only
      cases hfk:r.fk with
      |false=>exact⟨r',by simp only;rw[ag _ _ D];exact e,E⟩
      |true=>cases hq:s.T.rw (dL th.cur) with
       |none=>exact⟨r',by simp only;rw[ag _ _ D];exact e,E⟩
       |some q=>
        simp only
        by_cases l:aH m i=dL th.cur
        ·rw[l] at e ⊢
         rw[hq] at e
         cases e
         refine⟨_,ay _ _ _,?_⟩;unfold fz;simp only;rw[yb (by omega)];exact E
        ·exact⟨r',by rw[ag _ _ l,ag _ _ D];exact e,E⟩
     refine⟨λm K i c a3 u w=>b9 m i ?_,?_⟩
     ·have B:ax s.T.fm th.cur none m=some K:=a3
      by_cases P:m=th.cur
      ·subst P
       rw[ay] at B
       cases B
      ·rw[ag _ _ P] at B
       exact g.given _ _ _ _ B u w
     ·intro D a4 a5 a b a1 ad i F
      have a2:s.T.hist++ [(th.cur,r.kn,y)] =a++(D,a4,a5) :: b:=a1
      rcases List.eq_nil_or_concat b with a0|⟨a6,z,a0⟩
      ·subst a0
       have V:=List.append_inj' a2 rfl;have av:=(List.cons.inj V.2).1
       cases av
       rw[<-V.1];have b1:=xz L.ok C ad;have a9:i<f.kd.length:=by rw[L.kd];exact F
       obtain⟨X,ai,R⟩:=Q i f.kd[i] (gG a9) (b1 _ (yN a9))
       have b2:X.here=true:=by
        obtain⟨_,_,_,_,bb⟩:=(N.t.row _ X ai).node
        cases hhe:X.here with
        |true=>rfl
        |false=>exact absurd (bb.O.2 (.inr ⟨R,hhe⟩)) (b8 _)
       exact yL.2 ⟨_,(N.t.hist _ _ _).2 ⟨X,ai,R,b2,rfl,rfl⟩,rfl⟩
      ·rw[a0] at a2
       have:s.T.hist++ [(th.cur,r.kn,y)] =(a++(D,a4,a5) :: a6)++ [z]:=by rw[a2];simp
       have V:=List.append_inj' this rfl;exact g.order D a4 a5 a a6 V.1 ad i F
    split
    ·exact a7.ofT rfl
    ·exact a7
  ·rw[A]
   exact g.ofT rfl
end
end
section
def dB:List ah:=[⟨1,2,[⟨12,1,0,0,1⟩,⟨13,0,0,0,0⟩,⟨3,1,1,1,0⟩,⟨14,0,1,0,0⟩]⟩,⟨1,1,[⟨14,0,0,0,0⟩]⟩]
def oD:aj:=⟨[],0,[4],20⟩
def kj:aj:=⟨[1],1,[4],9⟩
theorem uH{p:List ah}{path:List UInt8}{fn at_:Int}{l kids:Nat}{regs:List Int}{ws:List (Int×aL)}(b:(bB p fn at_).k=14)(c:cD ws=0):cM p path fn (l+1) regs at_ kids ws=(⟨ct (dC ws regs) (bB p fn at_).a,0⟩,[]):=by
 rw[cM];simp only[b,c];simp
theorem B9{p:List ah}{path:List UInt8}{fn at_:Int}{l kids:Nat}{regs:List Int}{ws:List (Int×aL)}(a:(bB p fn at_).k=13)(b:cD ws=0):cM p path fn (l+1) regs at_ kids ws=cM p path fn l (dC ws regs) (at_+1) kids []:=by
 rw[cM];simp only[a,b];simp
theorem Dz{p:List ah}{path:List UInt8}{fn at_:Int}{l kids:Nat}{regs:List Int}{ws:List (Int×aL)}(c:(bB p fn at_).k=3):cM p path fn (l+1) regs at_ kids ws=cM p path fn l (jq regs (bB p fn at_).d (IntKind.i64.wrap (ct regs (bB p fn at_).a+ct regs (bB p fn at_).b))) (at_+1) kids ws:=by
 rw[cM];simp only[c,dF,du];simp
theorem B7{p:List ah}{path:List UInt8}{fn at_:Int}{l kids:Nat}{regs:List Int}{ws:List (Int×aL)}(a:(bB p fn at_).k=12)(b:¬16<=kids)(c:¬12<=path.length)(t:aj)(e:t=dc p path kids (bB p fn at_) regs l)(x:aL)(g:x=(cM p t.M t.fn (l / 2) (ij p t.fn t.args) 0 0 []).1):
 cM p path fn (l+1) regs at_ kids ws=((cM p path fn (l-l / 2) regs (at_+1) (kids+1) (ws++ [((bB p fn at_).d,x)])).1,t :: (cM p path fn (l-l / 2) regs (at_+1) (kids+1) (ws++ [((bB p fn at_).d,x)])).2):=by
 subst g e;rw[cM];simp only[a,b,c,yR,Yi]
theorem sr:qy dB kj=(⟨4,0⟩,[]):=uH (l:=8) (p:=dB) (path:=[1]) (fn:=1) (at_:=0) (regs:=[4]) (ws:=[]) rfl rfl
theorem ss:qy dB oD=(⟨8,0⟩,[kj]):=by
 have d:cM dB [] 0 8 [4,8] 3 1 [] =(⟨8,0⟩,[]):=uH (l:=7) rfl rfl;have c:cM dB [] 0 9 [4,4] 2 1 [] =(⟨8,0⟩,[]):=(Dz (l:=8) rfl).trans d;have b:cM dB [] 0 10 [4,0] 1 1 [(1,⟨4,0⟩)] =(⟨8,0⟩,[]):=(B9 (l:=9) rfl rfl).trans c;have a:=B7 (p:=dB) (path:=[]) (fn:=0) (at_:=0) (l:=19) (kids:=0) (regs:=[4,0]) (ws:=[]) rfl (by decide) (by decide) kj rfl ⟨4,0⟩ (by rw[show(⟨4,0⟩ :aL)=(qy dB kj).1 by rw[sr]];rfl);refine(show qy dB oD=cM dB [] 0 (19+1) [4,0] 0 0 [] from rfl).trans (a.trans ?_);show((cM dB [] 0 10 [4,0] 1 1 [(1,⟨4,0⟩)]).1,kj :: (cM dB [] 0 10 [4,0] 1 1 [(1,⟨4,0⟩)]).2)=_;rw[b]
theorem va:aF dB oD= [⟨oD,⟨8,0⟩,1⟩,⟨kj,⟨4,0⟩,0⟩]:=by
 have a:aF dB kj= [⟨kj,⟨4,0⟩,0⟩]:=by
  rw[ev];unfold bw aR;rw[sr];rfl
 rw[ev];unfold bw aR;rw[ss];simp[a]
end
end Go.Proofs.YtmdocplknceilaaGreat
