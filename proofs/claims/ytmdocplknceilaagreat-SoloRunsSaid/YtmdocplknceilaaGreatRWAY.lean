import Derived.Test.YtmdocplknceilaaGreatRWAX
set_option linter.all false
set_option maxRecDepth 100000
set_option maxHeartbeats 8000000
namespace Go.Proofs.YtmdocplknceilaaGreat
section
open Go.RowKit Go.Maps
def gW(u:eC)(a:Option Addr×Nat):List Value:=[.string (sB u.tk.M),.int .i64 u.tk.fn,.slice a.1 u.tk.args.length a.2,.int .i64 (u.tk.fuel:Int),.int .i64 u.res.v,.int .i64 u.res.e,.int .i64 (u.kd:Int)]
def eA:List eC->List (Option Addr×Nat)->List Value
 |u :: l,a :: m=>gW u a++eA l m
 |_,_=>[]
def bD(w:World)(F:Nat->Prop)(v:Value)(l:List eC):Prop:=
 ∃qs:List (Option Addr×Nat),qs.length=l.length/\w.ownsRow 0 77 7 v l.length (eA l qs)/\∀(i:Nat) (u:eC) (a:Option Addr×Nat),l[i]?=some u->qs[i]?=some a->aJ w F a.1 u.tk.args
theorem qT:∀(l:List eC) (b:List (Option Addr×Nat)) (m:List eC) (bs:List (Option Addr×Nat)),b.length=l.length->eA (l++m) (b++bs)=eA l b++eA m bs
 | [],[],m,bs,_=>rfl
 |u :: l,a :: b,m,bs,d=>by
  show gW u a++eA (l++m) (b++bs)=(gW u a++eA l b)++eA m bs;rw[qT l b m bs (by simpa using d),yY]
 | [],_ :: _,m,bs,d=>by simp at d
 |_ :: _,[],m,bs,d=>by simp at d
theorem qU:∀(l:List eC) (d:List (Option Addr×Nat)),∀x∈eA l d,x.oneCell'=true
 | [],_,x,b=>by simp[eA] at b
 |_ :: _,[],x,b=>by simp[eA] at b
 |u :: l,a :: d,x,b=>by
  rcases yH.1 b with b|b
  ·simp[gW] at b
   rcases b with rfl|rfl|rfl|rfl|rfl|rfl|rfl<;>rfl
  ·exact qU l d x b
theorem so:∀(l:List eC) (b:List (Option Addr×Nat)) (i:Nat) (u:eC) (a:Option Addr×Nat),l[i]?=some u->b[i]?=some a->∀j v,(gW u a)[j]?=some v->(eA l b)[i*7+j]?=some v
 | [],_,i,u,a,g,_,_,_,_=>by simp at g
 |_ :: _,[],i,u,a,_,g,_,_,_=>by simp at g
 |u :: l,a :: b,0,o,k,d,e,j,v,f=>by
  simp at d e;subst d;subst e;have r:j<(gW u a).length:=(gS f).1;show(gW u a++eA l b)[0*7+j]?=_;rw[Nat.zero_mul,yq,yi r];exact f
 |u :: l,a :: b,i+1,o,k,d,e,j,v,f=>by
  have:=so l b i o k (by simpa using d) (by simpa using e) j v f;show(gW u a++eA l b)[(i+1)*7+j]?=_;have q:(i+1)*7+j=7+(i*7+j):=by omega
  have n:(gW u a).length=7:=rfl;rw[q,yK (by rw[n];omega),n,show 7+(i*7+j)-7=i*7+j by omega];exact this
theorem nH{w:World}{base:Nat}{e:TypeId}{j n b:Nat}{v:Value}{xs:List Value}(f:w.ownsRow base e j v n xs)(a:v.ownBlock=some b):∃k,ae w b e k:=by
 rcases f.2 with⟨d,_⟩|⟨g,o,cur,d,_,i,_⟩
 ·rw[d] at a;cases a
 ·rw[d] at a
  cases a
  exact⟨cur,i⟩
theorem lv{w:World}{base f:Nat}{a d:TypeId}{q r n n':Nat}{v e:Value}{xs u:List Value}(g:w.ownsRow base a q v n xs)(i:w.ownsRow f d r e n' u)(k:a≠d)(b:Nat)(j:v.ownBlock=some b):¬e.ownBlock=some b:=by
 obtain⟨x,o⟩:=nH g j;exact aA i o λa=>k a.symm
theorem aJ.keepT{w w':World}{F S:Nat->Prop}{A:Option Addr}{xs:List Int}(f:aJ w F A xs)(q:aa S w w')(j:∀b a,F b->ae w b 2 a->¬S b):aJ w' F A xs:=by
 rcases f with f|⟨b,o,r,g,i⟩
 ·exact .inl f
 ·refine .inr ⟨b,o,r,λu=>?_,λk n=>?_⟩
  ·obtain⟨d,a,e⟩:=g u
   exact⟨d,a,q.J e (j b a d e)⟩
  ·obtain⟨d,a,e⟩:=g (by omega)
   exact⟨d,(q.I (p:=⟨b,o+k,none⟩) (block_lt_of_cell (i k n).2) (j b a d e)).trans (i k n).2⟩
theorem aJ.by_own{w w':World}{F:Nat->Prop}{A:Option Addr}{f:List Int}{base:Nat}{a:TypeId}{j n:Nat}{v:Value}{xs:List Value}(d:aJ w F A f)(e:aa (λb=>v.ownBlock=some b) w w')(hv:w.ownsRow base a j v n xs)(g:2≠a):aJ w' F A f:=by
 cases hb:v.ownBlock with
 |none=>exact d.kp e (λb _ a=>by rw[hb] at a;cases a)
 |some q=>
  obtain⟨k,i⟩:=nH hv hb;exact d.by_type (q:=q) (e.mono λb a=>by rw[hb] at a;exact(yz a).symm) i g
section
variable {w w':World}{F F':Nat->Prop}{v:Value}{l m:List eC}
theorem bD.U(d:bD w F v l)(b:ac w w'):bD w' F v l:=by
 obtain⟨n,e,f,g⟩:=d;exact⟨n,e,b.owns f nG,λi u a k j=>(g i u a k j).kp b nG⟩
theorem bD.by_type{q:Nat}{T:TypeId}{cs:Array Value}(j:bD w F v l)(e:aa (λb=>b=q) w w')(d:ae w q T cs)(k:2≠T)(n:77≠T):bD w' F v l:=by
 obtain⟨z,x,f,y⟩:=j;exact⟨z,x,e.owns f (λb hv g=>aA f d n (by rw[hv,g])),λi u a r o=>(y i u a r o).by_type e d k⟩
theorem bD.keepT{S:Nat->Prop}(g:bD w F v l)(e:aa S w w')(j:∀b d,F b->ae w b 2 d->¬S b)(k:∀b d,ae w b 77 d->¬S b):bD w' F v l:=by
 obtain⟨z,x,f,y⟩:=g;exact⟨z,x,e.owns f (λb o=>by obtain⟨d,r⟩:=nH f o;exact k b d r),λi u a q n=>(y i u a q n).keepT e j⟩
theorem bD.mo(d:bD w F v l)(e:∀b,F b->F' b):bD w F' v l:=by
 obtain⟨o,j,k,n⟩:=d;exact⟨o,j,k,λi u a g f=>(n i u a g f).mo e⟩
theorem bD.run{g:Nat}{L:gT}{p:List ah}{t:aj}{s:ep}(n:bD w F v l)(r:cu w g L p t s)(k:aa (λb=>b=g\/b=L.gb) w w')(j:∀b,F b->b≠g/\b≠L.gb):bD w' F v l:=by
 obtain⟨z,x,f,y⟩:=n;exact⟨z,x,k.owns f (λb e d=>d.elim (λd=>aA f r.J (by decide) (by rw[e,d])) (λd=>aA f r.rg (by decide) (by rw[e,d]))),λi u a q o=>(y i u a q o).kp k (λb e d=>d.elim (j b e).1 (j b e).2)⟩
theorem jA.run{f:Nat}{L:gT}{p:List ah}{t:aj}{s:ep}{rs:List aL}(d:jA w v rs)(r:cu w f L p t s)(g:aa (λb=>b=f\/b=L.gb) w w'):jA w' v rs:=
 g.owns d (λb e a=>a.elim (λa=>aA d r.J (by decide) (by rw[e,a])) (λa=>aA d r.rg (by decide) (by rw[e,a])))
theorem bD.by_own{base:Nat}{d:TypeId}{C n:Nat}{z:Value}{xs:List Value}(j:bD w F v l)(e:aa (λb=>z.ownBlock=some b) w w')(f:w.ownsRow base d C z n xs)(k:2≠d)(o:77≠d):bD w' F v l:=by
 obtain⟨B,x,g,y⟩:=j;exact⟨B,x,e.owns g (λb hv d=>lv g f o b hv d),λi u a r q=>(y i u a r q).by_own e f k⟩
theorem As{base n:Nat}{v1 q:Value}{e bs:List (Option Addr×Nat)}(d:e.length=l.length)(o:w.ownsRow base 77 7 v1 n (eA l e))(y:∀(i:Nat) (u:eC) (a:Option Addr×Nat),l[i]?=some u->e[i]?=some a->aJ w F a.1 u.tk.args)
 (r:bs.length=m.length) (x:∀(i:Nat) (u:eC) (a:Option Addr×Nat),m[i]?=some u->bs[i]?=some a->aJ w F a.1 u.tk.args) (k:aa (λb=>v1.ownBlock=some b) w w')
 (hv:w'.ownsRow 0 77 7 q (l.length+m.length) (eA l e++eA m bs)):bD w' F q (l++m):=by
 refine⟨e++bs,by rw[yk,yk,d,r],?_,λi u a g f=>?_⟩
 ·rw[yk,qT _ _ _ _ d]
  exact hv
 ·by_cases j:i<l.length
  ·rw[yi j] at g
   rw[yi (by rw[d];exact j)] at f;exact(y i u a g f).by_own k o (by decide)
  ·rw[yK (by omega)] at g
   rw[yK (by rw[d];omega),d] at f;exact(x _ u a g f).by_own k o (by decide)
end
theorem CY:∃i z,Tryz.prog.info? 77=some i/\i.zero=some z/\i.size=7/\i.bytes=80/\z.cells.size=7:=by
 have a:(Tryz.prog.info? 77).map (λi=>(i.zero.map λz=>z.cells.size,i.size,i.bytes))=some (some 7,7,80):=by kernel_rfl
 cases hi:Tryz.prog.info? 77 with
 |none=>rw[hi] at a;cases a
 |some i=>
  rw[hi] at a;simp only[yU,yC,yP] at a
  cases hz:i.zero with
  |none=>rw[hz] at a;cases a.1
  |some z=>
   rw[hz] at a;exact⟨i,z,rfl,hz,a.2.1,a.2.2,yz a.1⟩
theorem EE:∃i,Tryz.prog.info? 35=some i/\i.zero=some (.agg #[.int .i64 0,.int .i64 0])/\i.size=2/\i.bytes=16:=by
 have a:(Tryz.prog.info? 35).map (λi=>(i.zero,i.size,i.bytes))=some (some (.agg #[.int .i64 0,.int .i64 0]),2,16):=by kernel_rfl
 cases hi:Tryz.prog.info? 35 with
 |none=>rw[hi] at a;cases a
 |some i=>
  rw[hi] at a;simp only[yU,yC,yP] at a;exact⟨i,rfl,a⟩
theorem bD.reads{w:World}{A:Option Addr}{c:Nat}{l:List eC}(a:List (Option Addr×Nat))(b:w.ownsRow 0 77 7 (.slice A l.length c) l.length (eA l a)):bP w w.heap.size 7 A l.length (eA l a):=bP.of_own b
def leftOf(w:World)(rb:Nat):Nat:=match w.cell? ⟨rb,7,none⟩ with
 |some (.int _ x)=>x.toNat
 |_=>0
theorem cu.leftOf{w:World}{a:Nat}{L:gT}{p:List ah}{t:aj}{s:ep}(b:cu w a L p t s):leftOf w a=s.left:=by
 unfold Go.Proofs.YtmdocplknceilaaGreat.leftOf;rw[b.J.I 7];simp[cT]
theorem cu.dv_set{w:World}{d:Nat}{L:gT}{p:List ah}{t:aj}{s:ep}(a:cu w d L p t s)(v:Value):cu (w.setCell ⟨d,11,none⟩ v) d {L with dv:=v} p t s:=by
 have f:aa (λb=>b=d) w (w.setCell ⟨d,11,none⟩ v):=af _ _ _ _;refine⟨?_,f.J a.rg (λe=>ae.ne_ a.rg a.J (by decide) e),f.owns a.into (λb g e=>aA a.into a.J (by decide) (by rw[g,e])),a.cap⟩;have:=a.J.s_ 11 v
 simpa[cT] using this
theorem cu.by_own{w w':World}{f:Nat}{L:gT}{p:List ah}{t:aj}{s:ep}{base:Nat}{a:TypeId}{q n:Nat}{z:Value}{xs:List Value}(d:cu w f L p t s)(o:aa (λb=>z.ownBlock=some b) w w')(e:w.ownsRow base a q z n xs)(g:a≠112)(i:a≠2)(j:a≠3):cu w' f L p t s:=
 d.kp o (λa=>aA e d.J g a) (λa=>aA e d.rg i a) (λb k a=>lv e d.into j b a k)
structure D3(w wr:World)(A TA:Option Addr)(c tc rb:Nat)(L:gT)(p:List ah)(t:aj)(s:ep)(rs:List aL)(Ls:List aj)(wv:Value):Prop where
 r:cu wr rb L p t s
 i:gP p t s rs Ls
 ws:jA wr wv rs
 dn:bD wr (λb=>w.heap.size<=b/\b≠rb/\b≠L.gb) L.dv (Ls.flatMap (aF p))
 st:ac w wr
 pa:L.PA=A/\L.pc=c/\L.TA=TA/\L.tc=tc
 nb:w.heap.size<=rb/\w.heap.size<=L.gb
 ni:∀b,L.iv.ownBlock=some b->w.heap.size<=b
 nd:∀b,L.dv.ownBlock=some b->w.heap.size<=b
 nw:∀b,wv.ownBlock=some b->w.heap.size<=b
def GC(w wr:World)(A TA:Option Addr)(c tc rb:Nat)(p:List ah)(t:aj)(wv:Value):Prop:=∃L s rs Ls,D3 w wr A TA c tc rb L p t s rs Ls wv
def xQ(w w':World)(F:Nat->Prop)(p:List ah)(t:aj)(e:Ending):Prop:=∃v,e=.returned (.tuple #[eV (bw p t),v])/\bD w' (λb=>F b\/w.heap.size<=b) v (aF p t)/\ac w w'/\(∀b,v.ownBlock=some b->w.heap.size<=b)
theorem rK{p:List ah}{t:aj}{s:ep}{rs:List aL}{L:List aj}(a:gP p t s rs L):(L.flatMap (aF p)).length<=t.fuel:=by
 obtain⟨d,_,b⟩:=a.run;have:=sC p t.fuel t (lR);rw[ev,b,zL,zo,yk] at this;omega
theorem EW{w:World}{q:Nat}{T:TypeId}{cs:List Value}{k:Nat}(b:ae w q T cs.toArray)(a:cs.length=k):w.ownsRow 0 T k (.slice (some ⟨q,0,none⟩) 1 1) 1 cs:=by
 refine⟨by rw[a,Nat.one_mul],.inr ⟨q,1,cs.toArray,rfl,yx _,b,lR,by unfold maxLen;decide,by simp[a],?_⟩⟩;rw[Nat.one_mul,<-a];exact zr
theorem bD.one{w:World}{F:Nat->Prop}{q:Nat}(u:eC)(a:Option Addr×Nat)(cs:List Value)(g:gW u a=cs)(f:ae w q 77 cs.toArray)(e:aJ w F a.1 u.tk.args):bD w F (.slice (some ⟨q,0,none⟩) 1 1) [u]:=by
 subst g;refine⟨[a],rfl,?_,λi n j b d=>?_⟩
 ·have:=EW f (k:=7) rfl
  simpa[eA] using this
 ·cases i with
  |zero=>
   simp at b d;subst b;subst d;exact e
  |succ i=>simp at b
theorem mW{o:Oper}{a:Act}{W:World}{F:Nat->Prop}{n:Act->World->Prop}{Q:Exit->Act->World->Prop}(s x:Operand)(G:o.op=.call {callee:=.builtin .append,args:=#[s,x],argTypes:=#[36,36]})(v1:Value)(H:a.eval s=v1)(v2:Value)(N:a.eval x=v2)(f d:List eC)(y:bD W F v1 f)(B:bD W F v2 d)(a2:f.length+d.length<=1000000)
 (C:∀g w',bD w' F g (f++d)->aa (λb=>v1.ownBlock=some b) W w'->(∀b,g.ownBlock=some b->v1.ownBlock=some b\/W.heap.size<=b)->n (a.put o.dst g) w'):o.wp Tryz.prog a W n Q:=by
 obtain⟨i,z,E,P,K,D,R⟩:=CY;obtain⟨a1,V,u,X⟩:=y;obtain⟨bs,S,r,T⟩:=B;obtain⟨A,c,rfl⟩:=bR r;refine iR W s x 36 G 0 77 i z 7 80 Tryz.underlying36 E P K D R (by decide) v1 f.length (eA f a1) H u W.heap.size A d.length c (eA d bs) N (bD.reads bs r) (qU d bs) (by unfold maxLen;omega) (by omega) (yx _) (λg w' Y Z a0=>?_);have q:aa (λb=>v1.ownBlock=some b) W w':=(aa.refl _ W).grown Z (λk e=>.inl e);refine C g w' (As V u X S T q Y) q (λb j=>?_)
 rcases a0 with e|e
 ·exact .inl (by rw[<-e];exact j)
 ·rw[e] at j
  exact .inr (zl (yz j))
theorem gE{k:Array Oper}{o:Oper}{a:Act}{W:World}{F:Nat->Prop}{j:Act->World->Prop}{Q:Exit->Act->World->Prop}{n:Prop}{q:Nat}(C:o.guard=none)(s x:Operand)(D:o.op=.call {callee:=.builtin .append,args:=#[s,x],argTypes:=#[36,36]})(E:a.eval s=.slice (some ⟨q,0,none⟩) 1 1)(v2:Value)(H:a.eval x=v2)
 (u:eC) (i:Option Addr×Nat) (cs:List Value) (B:gW u i=cs) (g:ae W q 77 cs.toArray) (y:aJ W F i.1 u.tk.args) (e:List eC) (r:bD W F v2 e) (R:e.length<=100000)
 (z:∀d w',bD w' F d (u :: e)->aa (λb=>b=q) W w'->(∀b,d.ownBlock=some b->b=q\/W.heap.size<=b)->j (a.put o.dst d) w'):
 if Region.wanted o (yielded k a.tmps)=true then Oper.wp Tryz.prog o a W j Q else n:=by
 have G:Region.wanted o (yielded k a.tmps)=true:=by simp[Region.wanted,C]
 rw[yf G];refine mW s x D _ E v2 H [u] e (bD.one u i cs B g y) r (by simp;omega) λd w' K N P=>z d w' K (N.mono λb f=>(yz f).symm) λb g=>(P b g).imp (λf=>(yz f).symm) id
theorem ta{o:Oper}{a:Act}{W:World}{n:Act->World->Prop}{Q:Exit->Act->World->Prop}{q:Nat}(s x:Operand)(E:o.op=.call {callee:=.builtin .append,args:=#[s,x],argTypes:=#[104,104]})(v1:Value)(G:a.eval s=v1)(K:a.eval x=.slice (some ⟨q,0,none⟩) 1 1)(rs:List aL)(y:aL)(r:jA W v1 rs)(d:ae W q 35 (mn y).toArray)(T:rs.length<=1000)
 (z:∀e w',jA w' e (rs++ [y])->aa (λb=>v1.ownBlock=some b) W w'->(∀b,e.ownBlock=some b->v1.ownBlock=some b\/W.heap.size<=b)->n (a.put o.dst e) w'):o.wp Tryz.prog a W n Q:=by
 obtain⟨i,D,N,H,C⟩:=EE;refine iR W s x 104 E 0 35 i _ 2 16 Tryz.underlying104 D N H C rfl (by decide) v1 rs.length (rs.flatMap mn) G r W.heap.size (some ⟨q,0,none⟩) 1 1 (mn y) K ⟨rfl,λ_=>⟨⟨q,0,none⟩,rfl,d.lt,λj u g=>?_⟩⟩ (λu g=>by simp[mn] at g;rcases g with rfl|rfl<;>rfl) (by unfold maxLen;omega) (by omega) (yx _) (λe w' P R S=>?_)
 ·rw[bg,yq,d.I,zi]
  exact g
 ·have B:aa (λb=>v1.ownBlock=some b) W w':=(aa.refl _ W).grown R (λk f=>.inl f)
  refine z e w' ?_ B (λb d=>?_)
  ·show w'.ownsRow 0 35 2 e (rs++ [y]).length ((rs++ [y]).flatMap mn)
   rw[yk,zL]
   simpa using P
  ·rcases S with f|f
   ·exact .inl (by rw[<-f];exact d)
   ·rw[f] at d
    exact .inr (zl (yz d))
theorem pL{e:Array Oper}{f:List Oper}{o:Oper}{a:Act}{W:World}{Q:Exit->Act->World->Prop}{q:Nat}(n:o.guard=none)(s x:Operand)(u:o.op=.call {callee:=.builtin .append,args:=#[s,x],argTypes:=#[104,104]})(v1:Value)(z:a.eval s=v1)(B:a.eval x=.slice (some ⟨q,0,none⟩) 1 1)(rs:List aL)(y:aL)(g:jA W v1 rs)(k:ae W q 35 (mn y).toArray)(r:rs.length<=1000)
 (i:∀d w',jA w' d (rs++ [y])->aa (λb=>v1.ownBlock=some b) W w'->(∀b,d.ownBlock=some b->v1.ownBlock=some b\/W.heap.size<=b)->wpList Tryz.prog e Q f (a.put o.dst d) w'):wpList Tryz.prog e Q (o :: f) a W:=
 wpList_plain n λ_ j=>ta s x u v1 z B rs y g k r λd w' C D E=>j _ _ (i d w' C D E)
theorem pg{g:Array Oper}{i:List Oper}{o:Oper}{a:Act}{W:World}{F:Nat->Prop}{Q:Exit->Act->World->Prop}(r:o.guard=none)(s x:Operand)(y:o.op=.call {callee:=.builtin .append,args:=#[s,x],argTypes:=#[36,36]})(v1:Value)(z:a.eval s=v1)(v2:Value)(B:a.eval x=v2)(e f:List eC)(j:bD W F v1 e)(k:bD W F v2 f)(u:e.length+f.length<=1000000)
 (n:∀d w',bD w' F d (e++f)->aa (λb=>v1.ownBlock=some b) W w'->(∀b,d.ownBlock=some b->v1.ownBlock=some b\/W.heap.size<=b)->wpList Tryz.prog g Q i (a.put o.dst d) w'):wpList Tryz.prog g Q (o :: i) a W:=
 wpList_plain r λ_ q=>mW s x y v1 z v2 B e f j k u λd w' C D E=>q _ _ (n d w' C D E)
section
variable {p:List ah}{t:aj}{s:ep}{rs:List aL}{L:List aj}
theorem xJ(p:List ah)(t:aj)(s:ep):(eW p t s).2.kd=s.kd:=by
 unfold eW;simp only;split
 ·rfl
 ·split
  ·rfl
  ·split<;>rfl
theorem xI(e:gP p t s rs L)(f:gH p)(g:cC p t)(a:(eW p t s).1≠0):bw p t=⟨0,(eW p t s).1⟩/\aR p t=L:=by
 unfold eW at a ⊢;simp only at a ⊢
 by_cases b:s.left=0
 ·rw[yf b] at a ⊢
  exact e.over0 b
 ·rw[yb b] at a ⊢
  by_cases d:(bB p t.fn s.at_).k=12\/(bB p t.fn s.at_).k=13\/(bB p t.fn s.at_).k=14
  ·rw[yf d] at a
   exact absurd rfl a
  ·rw[yb d] at a ⊢
   have:=e.plain f g b d
   cases hp:dF (bB p t.fn s.at_) s.rg (s.at_+1) with
   |none=>rw[hp] at this;exact this
   |some x=>rw[hp] at a;exact absurd rfl a
theorem lx(a:(eW p t s).1=0):s.left≠0:=by
 intro d;unfold eW at a;simp only at a;rw[yf d] at a;have b:(130:Int)=0:=a;exact absurd b (by decide)
theorem sM(a:(eW p t s).1=0)(b:(bB p t.fn s.at_).k=12\/(bB p t.fn s.at_).k=13\/(bB p t.fn s.at_).k=14):(eW p t s).2= {s with left:=s.left-1,at_:=s.at_+1}:=by
 have d:=lx a;unfold eW;simp only;rw[yb d,yf b]
theorem vt(e:gP p t s rs L)(g:gH p)(i:cC p t)(a:(eW p t s).1=0)(b:¬((bB p t.fn s.at_).k=12\/(bB p t.fn s.at_).k=13\/(bB p t.fn s.at_).k=14)):gP p t (eW p t s).2 rs L/\(eW p t s).2.left<s.left:=by
 have d:=lx a;unfold eW at a ⊢;simp only at a ⊢;rw[yb d,yb b] at a ⊢;have:=e.plain g i d b
 cases hp:dF (bB p t.fn s.at_) s.rg (s.at_+1) with
 |none=>
  rw[hp] at a;have f:(131:Int)=0:=a;exact absurd f (by decide)
 |some x=>rw[hp] at this;exact⟨this,by show s.left-1<s.left;omega⟩
end
structure mO(w wr:World)(A TA:Option Addr)(c tc rb g:Nat)(o:bK)(L:gT)(p:List ah)(t:aj)(s:ep)(rs:List aL)(Ls:List aj)(wv:Value):Prop where
 r:cu wr rb L p t s
 ws:jA wr wv rs
 dn:bD wr (λb=>w.heap.size<=b/\b≠rb/\b≠L.gb) L.dv (Ls.flatMap (aF p))
 st:ac w wr
 pa:L.PA=A/\L.pc=c/\L.TA=TA/\L.tc=tc
 nb:w.heap.size<=rb/\w.heap.size<=L.gb
 ni:∀b,L.iv.ownBlock=some b->w.heap.size<=b
 nd:∀b,L.dv.ownBlock=some b->w.heap.size<=b
 nw:∀b,wv.ownBlock=some b->w.heap.size<=b
 kl:s.kd=Ls.length
 op:ae wr g 106 #[.int .u8 o.k,.int .i64 o.d,.int .i64 o.a,.int .i64 o.b,.int .i64 o.n]
 ll:(Ls.flatMap (aF p)).length<=t.fuel
def GB(w wr:World)(A TA:Option Addr)(c tc rb g:Nat)(o:bK)(l0:Nat)(p:List ah)(t:aj)(wv:Value)(er:Int):Prop:=
 ∃L s rs Ls,mO w wr A TA c tc rb g o L p t s rs Ls wv/\(er≠0->bw p t=⟨0,er⟩/\aR p t=Ls)/\
  (er=0->(o.k=13\/o.k=14)->∃s0,gP p t s0 rs Ls/\s0.left≠0/\s0.left=l0/\bB p t.fn s0.at_=o/\s= {s0 with left:=s0.left-1,at_:=s0.at_+1})/\
  (er=0->o.k≠13->o.k≠14->gP p t s rs Ls/\s.left<l0)
theorem D3.m{w B w':World}{A y:Option Addr}{c z j g:Nat}{L:gT}{p:List ah}{t:aj}{s s':ep}{rs:List aL}{x:List aj}{C:Value}{o:bK}(e:D3 w B A y c z j L p t s rs x C)(E:cu w' j L p t s')(u:aa (λb=>b=j\/b=L.gb) B w')(D:s'.kd=s.kd)
 (q:ae w' g 106 #[.int .u8 o.k,.int .i64 o.d,.int .i64 o.a,.int .i64 o.b,.int .i64 o.n]):mO w w' A y c z j g o L p t s' rs x C:=
 ⟨E,e.ws.run e.r u,e.dn.run e.r u (λb q=>q.2),e.st.trans' u (λb f=>.inr (f.elim (λf=>by rw[f];exact e.nb.1) (λf=>by rw[f];exact e.nb.2))),e.pa,e.nb,e.ni,e.nd,e.nw,by rw[D];exact e.i.kl,q,rK e.i⟩
theorem mO.run{w n w':World}{A j:Option Addr}{c k f g:Nat}{L:gT}{p:List ah}{t:aj}{s s':ep}{rs:List aL}{i:List aj}{q:Value}{o:bK}(a:mO w n A j c k f g o L p t s rs i q)(y:cu w' f L p t s')(e:aa (λb=>b=f\/b=L.gb) n w')(x:s'.kd=s.kd):mO w w' A j c k f g o L p t s' rs i q:=
 ⟨y,a.ws.run a.r e,a.dn.run a.r e (λb u=>u.2),a.st.trans' e (λb d=>.inr (d.elim (λd=>by rw[d];exact a.nb.1) (λd=>by rw[d];exact a.nb.2))),a.pa,a.nb,a.ni,a.nd,a.nw,by rw[x];exact a.kl,e.J a.op (λd=>d.elim (ae.ne_ a.op a.r.J (by decide)) (ae.ne_ a.op a.r.rg (by decide))),a.ll⟩
theorem mO.U{w j w':World}{A e:Option Addr}{c i f g:Nat}{L:gT}{p:List ah}{t:aj}{s:ep}{rs:List aL}{d:List aj}{k:Value}{o:bK}(a:mO w j A e c i f g o L p t s rs d k)(b:ac j w'):mO w w' A e c i f g o L p t s rs d k:=
 ⟨a.r.U b,b.owns a.ws nG,a.dn.U b,a.st.trans b,a.pa,a.nb,a.ni,a.nd,a.nw,a.kl,b.J a.op nF,a.ll⟩
theorem mO.res{w j w':World}{A u:Option Addr}{c y x g q:Nat}{L:gT}{p:List ah}{t:aj}{s:ep}{rs:List aL}{n:List aj}{k:Value}{o:bK}{cs:Array Value}(a:mO w j A u c y x g o L p t s rs n k)(e:ae j q 35 cs)(C:w.heap.size<=q)(B:∀b,k.ownBlock=some b->b≠q)(f:aa (λb=>b=q) j w'):mO w w' A u c y x g o L p t s rs n k:=
 ⟨a.r.kp f (λd=>ae.ne_ e a.r.J (by decide) d.symm) (λd=>ae.ne_ e a.r.rg (by decide) d.symm) (λb z d=>aA a.r.into e (by decide) (by rw[z,d])),f.owns a.ws B,a.dn.keepT f (λb D _ i d=>ae.ne_ i e (by decide) d) (λb D i d=>ae.ne_ i e (by decide) d),a.st.trans' f (λb d=>.inr (by rw[d];exact C)),a.pa,a.nb,a.ni,a.nd,a.nw,a.kl,f.J a.op (λd=>ae.ne_ a.op e (by decide) d),a.ll⟩
theorem mO.l{w i:World}{A d:Option Addr}{c f e g:Nat}{L:gT}{p:List ah}{t:aj}{s:ep}{rs:List aL}{b:List aj}{j:Value}{o:bK}(a:mO w i A d c f e g o L p t s rs b j)(k:gP p t s rs b):D3 w i A d c f e L p t s rs b j:=
 ⟨a.r,k,a.ws,a.dn,a.st,a.pa,a.nb,a.ni,a.nd,a.nw⟩
theorem me{p:List ah}{t:aj}{a:List aj}(b:aR p t=a):aF p t=⟨t,bw p t,a.length⟩ :: a.flatMap (aF p):=by rw[ev,b]
theorem lP{W9 W w':World}{q f e:Nat}{cs k j:Array Value}{u:Value}(i:aa (λb=>b=q) W w')(y:∀b,u.ownBlock=some b->b=q\/W.heap.size<=b)(a:ac W9 W)(o:ae W q 77 cs)(r:W9.heap.size<=q)(n:∀W q cs,ac W9 W->ae W q 77 cs->f≠q/\e≠q)(g:ae W9 f 35 k)(x:ae W9 e 35 j):
 ae w' f 35 k/\ae w' e 35 j/\ac W9 w'/\∀b,u.ownBlock=some b->W9.heap.size<=b:=
 ⟨i.J (a.J g nF) (n W q cs a o).1,i.J (a.J x nF) (n W q cs a o).2,a.trans' i λb d=>.inr (by rw[d];exact r),λb g=>(y b g).elim (λd=>by rw[d];exact r) (λd=>lT a.size d)⟩
section
variable {p:List ah}{A:Option Addr}{c:Nat}{F:Nat->Prop}
theorem En(fj:Nat)(h9:gH p)(hT:∀(t:aj),t.fuel<fj->∀(D:Option Addr) (N:Nat) (b2:Nat->Prop) (w:World),fP w F A p->aJ w b2 D t.args->cC p t->Calls Tryz.prog 13 #[aM p A c,.agg (bX t D N)] w λe w'=>xQ w w' b2 p t e)
 (t:aj) (ia:t.fuel<=fj) (D:Option Addr) (N:Nat) (b2:Nat->Prop) (w:World) (c7:fP w F A p) (h8:aJ w b2 D t.args) (ha:cC p t):
 Calls Tryz.prog 13 #[aM p A c,.agg (bX t D N)] w λe w'=>xQ w w' b2 p t e:=by
 obtain⟨n,g8⟩:=eX p.length;obtain⟨al,g5⟩:=eX t.args.length;obtain⟨tp,ge⟩:=eX (sB t.M);obtain⟨fn,g6⟩:=eX t.fn;obtain⟨aE,gc⟩:=eX ((t.fuel:Int):Int);obtain⟨fo,er⟩:=eX (w.alloc (.cells #[.slice A n c] 24));obtain⟨fp,es⟩:=eX (fo.alloc (.cells #[.string tp,.int .i64 fn,.slice D al N,.int .i64 aE] 30));obtain⟨b5,g3⟩:=eX (fp.alloc (.cells #[.int .i64 0,.int .i64 0] 35));have j0:ac w fo:=by rw[er];exact(aa.refl _ w).alloc _
 have hA:ac fo fp:=by rw[es];exact oR.alloc _
 have gp:ac fp b5:=by rw[g3];exact oR.alloc _
 obtain⟨f,g7⟩:=eX w.heap.size;have s0:fo.heap.size=f+1:=by rw[er,g7];simp
 have f7:fp.heap.size=f+1+1:=by rw[es];simp[s0]
 have h2:ae b5 f 24 #[.slice A n c]:=(hA.trans gp).J (by rw[er,g7];exact bN) nF;have h3:ae b5 (f+1) 30 #[.string tp,.int .i64 fn,.slice D al N,.int .i64 aE]:=gp.J (by rw[es,<-s0];exact bN) nF;have i0:ae b5 (f+1+1) 35 #[.int .i64 0,.int .i64 0]:=by rw[g3,<-f7];exact bN
 have ea:=(j0.trans hA).trans gp;have fb:=hD (xo p A D c N F b2 t b5 (c7.U ea) h9 (h8.kp ea nG) ha);unfold aM bX at fb;unfold aM bX;rw[<-g8,<-g5,<-ge,<-g6,<-gc] at fb;rw[<-g8,<-g5,<-ge,<-g6,<-gc];have hR:Hd (((w.alloc (.cells #[.slice A n c] 24)).alloc (.cells #[.string tp,.int .i64 fn,.slice D al N,.int .i64 aE] 30)).alloc (.cells #[.int .i64 0,.int .i64 0] 35)=b5):=hD (by rw[g3,es,er]);have b1:=h2.I 0;simp[] at b1;obtain⟨cb,cd,ce,cf⟩:=h3.gE4;have a5:=hD (aI g8 (aI g5 (aI ge (aI g6 gc))));have e3:=hD g7;have ji:=hD h2;have eb:=hD h3;have cg:=hD i0;have b3:=hD ea;have gA:=hD (c7.U ea);have ee:=hD (h8.kp ea nG);have a9:=hD ha;have c6:=hD h9;have k4:=hD hT;have ki:=hD ia;clear c7 h8 ha h9 hT ia g8 g5 ge g6 gc er es g3 j0 hA gp g7 s0 f7 h2 h3 i0 ea;go_enter Tryz.func13,Tryz.ntmps13;go_upto_region 1 with fail;rw[hR.O,<-e3.O];clear hR;go_wp2_with fail;refine fb.O.mono ?_;rintro e m3 ⟨z,m5,m7,rfl,hW,hX,h6,j2⟩;clear fb b1 cb cd ce cf;have hL:=hD h6;have hV:=hD j2;have gu:=hD (aI hW hX);clear h6 j2 hW hX;go_wp2_with fail
 go_loopw [7] (λi wr=>GC b5 wr A D c N z p t i) (λ_ wr=>leftOf wr z)
 case atStart=>
  refine⟨_,_,[],[],hL.O,gP.start c6.O a9.O,⟨rfl,.inl ⟨rfl,rfl⟩⟩,⟨[],rfl,⟨rfl,.inl ⟨rfl,rfl⟩⟩,λi u a l3=>by simp at l3⟩,hV.O,⟨rfl,rfl,rfl,rfl⟩,⟨gu.O.1.1,gu.O.2.1⟩,?_,?_,?_⟩<;>(intro b x;cases x)
 case round=>
  clear hL hV gu;obtain⟨L,s,rs,a4,db⟩:=hrel;obtain⟨f9,fs,l6⟩:=bR db.ws;subst l6;obtain⟨⟨k,d,a,b,bn⟩,hn⟩ :∃o,o=bB p t.fn s.at_:=⟨_,rfl⟩
  obtain⟨bv,hb⟩:=eX ((eW p t s).1);obtain⟨f7,f2⟩:=eX ((eW p t s).2);have ef:=hD (B3 p F t wr z L s (by rw[db.pa.1];exact gA.O.U db.st) c6.O a9.O db.r db.i.b);unfold xY cR at ef;rw[<-hn,<-hb,<-f2] at ef;simp only at ef;have c3:=hD db;have dm:=hD hn;have c5:=hD (aI hb f2);have i6:leftOf wr z=s.left:=db.r.leftOf;have hN:=hD i6;clear db hn hb f2 i6
  go_upto_region 4 with(go_at_call 41;refine ef.O.mono ?_;rintro e gN ⟨rfl,i2,j3⟩)
  obtain⟨g,hc⟩:=eX gN.heap.size;obtain⟨dq,g4⟩:=eX (gN.alloc (.cells #[.int .u8 k,.int .i64 d,.int .i64 a,.int .i64 b,.int .i64 bn] 106));rw[<-g4,<-hc];have hB:ac gN dq:=by rw[g4];exact oR.alloc _
  have h1:ae dq g 106 #[.int .u8 k,.int .i64 d,.int .i64 a,.int .i64 b,.int .i64 bn]:=by rw[g4,hc];exact bN
  have C:=hD (c3.O.m (o:=⟨k,d,a,b,bn⟩) (i2.U hB) (j3.trans (hB.mono λ_ e=>e.elim)) (by rw[c5.O.2];exact xJ p t s) h1);obtain⟨b1,bp,bq,br,bt⟩:=h1.gE5;clear ef i2 j3 hB h1 g4 hc
  by_cases bf:bv=0
  ·subst bf
   go_upto_if 29 with fail
   go_cut [7,9] (λs7 s9 wx=>∃e2 dz e6 b6,s7=.slice e2 dz e6/\s9=.int .i64 b6/\GB b5 wx A D c N z g ⟨k,d,a,b,bn⟩ s.left p t (.slice e2 dz e6) b6)
   case first=>
    by_cases hf:k=12
    ·subst hf
     have c8:=lx c5.O.1.symm;have ch:=hD c8;obtain⟨fv,fw,ek⟩:=c3.O.i.fork c6.O a9.O c8 (by rw[<-dm.O]);have f2:f7= {s with left:=s.left-1,at_:=s.at_+1}:=by rw[c5.O.2];exact sM c5.O.1.symm (by rw[<-dm.O];exact .inl rfl)
     subst f2;rw[<-dm.O] at ek;have c9:=c3.O.i.op c6.O a9.O;rw[<-dm.O] at c9
     by_cases hg:s.kd=16
     ·have jn:=hD (fv hg)
      have c2:=hD (BV (k:=12) (d:=d) (a:=a) (b:=b) (n:=bn) C.O.r hg);unfold qH cR qF at c2;clear fv fw ek c9 c8
      go_wp2_with (go_at_call 42;refine c2.O.mono ?_;rintro e e5 ⟨rfl,fx,e0⟩)
      go_meet
      case rel=>exact⟨f9,rs.length,fs,132,rfl,rfl,L,_,rs,a4,C.O.U (e0.alloc _),λ_=>jn.O,λe=>absurd e (by decide),λe=>absurd e (by decide)⟩
     ·have eL:s.kd<16:=Nat.lt_of_le_of_ne c3.O.i.k16 hg
      by_cases ho:t.M.length=12
      ·have k0:=hD (fw eL ho)
       have c2:=hD (BU (k:=12) (d:=d) (a:=a) (b:=b) (n:=bn) C.O.r eL a9.O.pth ho);unfold qH cR qF at c2;clear fv fw ek c9 c8
       go_wp2_with (go_at_call 42;refine c2.O.mono ?_;rintro e e5 ⟨rfl,fx,e0⟩)
       go_meet
       case rel=>exact⟨f9,rs.length,fs,133,rfl,rfl,L,_,rs,a4,C.O.U (e0.alloc _),λ_=>k0.O,λe=>absurd e (by decide),λe=>absurd e (by decide)⟩
      ·have i7:t.M.length<12:=Nat.lt_of_le_of_ne a9.O.pth.1 ho
       obtain⟨hF,la,ht⟩:=ek eL i7;have f1:=c9.fk rfl;obtain⟨a,rfl⟩ :∃h0:Nat,a=(h0:Int):=ym c9.a.1;obtain⟨bn,rfl⟩ :∃n':Nat,bn=(n':Int):=ym f1.1;have ib:=c6.O.fn a9.O.fn0 a9.O.fn1;have ic:=c6.O.fn (i:=(bn:Int)) (zD _) f1.2.1;have e9:=c3.O.i.b.rl;have c2:=hD (EY F 12 d b a bn (bG p (bn:Int)) (by rw[C.O.pa.1];exact gA.O.U C.O.st) C.O.r eL a9.O.pth i7 (by rw[<-(gy (p:=p) (i:=(bn:Int)) (zD _) f1.2.1).2,yo]) ic.a0 (by have da:=f1.2.2;show _\/(a:Int)+(bG p (bn:Int)).args<=(s.rg.length:Int);rw[e9];exact da) (by have:=ib.r16;show s.rg.length<=1000;omega) (by have:=c3.O.i.b.lf;show s.left-1<=1000000;omega) (by show s.into.length<16;rw[c3.O.i.il];exact eL));unfold xS cR bX at c2;obtain⟨a8,hk⟩:=eX (dc p t.M s.kd ⟨12,d,(a:Int),b,(bn:Int)⟩ s.rg (s.left-1));simp only at c2;rw[<-hk] at c2 hF ht;obtain⟨kp,hj⟩:=eX (sB a8.M);obtain⟨is,hi⟩:=eX a8.fn;obtain⟨ik,hh⟩:=eX a8.args.length;obtain⟨it,hl⟩:=eX ((a8.fuel:Int):Int);rw[<-hj,<-hi,<-hh,<-hl] at c2;have ff:=hD (aI hj (aI hi (aI hh hl)));have gB:=hD ht;have kc:=hD hF;have k7:Hd (a8.fuel<fj):=hD (by have:=ki.O;rw[hk];show(s.left-1) / 2<fj;omega);clear fv fw ek c9 c8 f1 ib ic e9 hk hj hi hh hl hF la ht
       go_upto_region 8 with(go_at_call 42;refine c2.O.mono ?_;rintro e e5 ⟨gr,h4,iv,rfl,ie,fx,v6,e0⟩)
       obtain⟨cB,e8⟩:=eX (e5.alloc (.cells #[.string kp,.int .i64 is,.slice gr ik h4,.int .i64 it] 30));obtain⟨kv,hd⟩:=eX e5.heap.size;rw[<-e8,<-hd];have f5:ac e5 cB:=by rw[e8];exact oR.alloc _
       have hY:ae cB kv 30 #[.string kp,.int .i64 is,.slice gr ik h4,.int .i64 it]:=by rw[e8,hd];exact bN
       have fm:=hD (e0.trans (f5.mono (T:=λb=>b=z\/L.iv.ownBlock=some b) λ_ e=>e.elim));have jd:=hD (fx.U f5);have kk:=hD (ie.kp f5 nG);have ks:=hD v6;have hQ:=hD (aI e0.size f5.size);have g1:ac b5 cB:=C.O.st.trans' fm.O λb e=>.inr (e.elim (λe=>by rw[e];exact C.O.nb.1) (λe=>C.O.ni b e))
       have gD:=hD g1;have kf:=hD (fm.O.owns C.O.ws (λb x e=>e.elim (λe=>aA C.O.ws C.O.r.J (by decide) (by rw[x,e])) (λe=>lv C.O.ws C.O.r.into (by decide) b x e)));have hO:=hD (fm.O.J C.O.op (λe=>e.elim (ae.ne_ C.O.op C.O.r.J (by decide)) (λe=>aA C.O.r.into C.O.op (by decide) e)))
       have jl:Hd (bD cB (λb=>b5.heap.size<=b/\b≠z/\b≠L.gb) L.dv (a4.flatMap (aF p))):=hD (by
        exact C.O.dn.keepT fm.O (λb lz x bf e=>e.elim x.2.1 (λe=>aA C.O.r.into bf (by decide) e)) (λb lz bf e=>e.elim (λe=>ae.ne_ bf C.O.r.J (by decide) e) (λe=>aA C.O.r.into bf (by decide) e)))
       have j5:=((g1.J ji.O nF)).I 0;simp[] at j5;obtain⟨le,f6,dd,e1⟩:=hY.gE4;have fd:=hD (k4.O a8 k7.O gr h4 (bl dq e5) cB (gA.O.U g1) kk.O kc.O);unfold xQ aM bX eV at fd;rw[<-ff.O.1,<-ff.O.2.1,<-ff.O.2.2.1,<-ff.O.2.2.2,<-a5.O.1] at fd;clear c2 f5 hY g1 e8 hd fx ie v6 e0
       go_upto_region 9 with(go_at_call 13;refine fd.O.mono ?_;rintro e W8 ⟨lk,rfl,ft,c4,hy⟩)
       obtain⟨f8,fr,l5⟩ :∃f8 fr,lk=.slice f8 (aF p a8).length fr:=by obtain⟨_,_,a2,_⟩:=ft;exact bR a2
       subst l5;obtain⟨iz,g9⟩:=eX ((aF p a8).length);rw[<-g9];rw[<-g9] at ft hy;obtain⟨b8,dr⟩:=eX ((bw p a8).v);obtain⟨hE,hr⟩:=eX ((bw p a8).e);rw[<-dr,<-hr];obtain⟨W9,R⟩:=eX (W8.alloc (.cells #[.int .i64 b8,.int .i64 hE] 35));obtain⟨kS,he⟩:=eX W8.heap.size;rw[<-R,<-he];have Q:ac W8 W9:=by rw[R];exact oR.alloc _
       have hZ:ae W9 kS 35 #[.int .i64 b8,.int .i64 hE]:=by rw[R,he];exact bN
       have d9:=hD (c4.trans Q);have m1:=hD g9;have d8:=hD (aI dr hr);have jj:=hD (ft.U Q);have m0:=hD hy;have eg:Hd (jA W9 (.slice f9 rs.length fs) rs):=hD (d9.O.owns kf.O nG);have ka:Hd (rs.length<=1000):=hD (by have:=c3.O.i.fl;have:=c3.O.i.k16;omega);have k9:Hd (mn (bw p a8)= [.int .i64 b8,.int .i64 hE]):=hD (by rw[d8.O.1,d8.O.2];rfl);obtain⟨lo,lw⟩:=hZ.gE2;clear fd ft hy c4 Q hZ R he g9 dr hr j5 le f6 dd e1
       go_upto_region 10 with(at_builtin;refine pL rfl _ _ rfl _ rfl rfl rs (bw p a8) (aa.owns (S:=λ_=>False) (by repeat (first|with_reducible exact oR|with_reducible refine aa.alloc ?_ _)) eg.O nG) (by rw[k9.O];exact bN) ka.O ?_;intro ln b4 bk a2 bz)
       obtain⟨gt,e7,l7⟩ :∃A c,ln=.slice A (rs++ [bw p a8]).length c:=bR bk;subst l7;obtain⟨hz,ga⟩:=eX ((rs++ [bw p a8]).length);rw[<-ga] at bk bz;rw[<-ga];have e4:=hD (aa.trans (((aa.refl (λ_=>False) W9).alloc _).mono λ_ e=>e.elim) a2);have kl:Hd (∀b,(Value.slice gt hz e7).ownBlock=some b->b5.heap.size<=b):=hD λb x=>(bz b x).elim (C.O.nw b) λe=>lT (lT gD.O.size d9.O.size) (lT (by simp) e)
       have fa:=hD ((jd.O.U d9.O).by_own e4.O eg.O (by decide) (by decide) (by decide));have hS:=hD bk;have i8:=C.O.r.J.lt;have i4:=C.O.r.rg.lt;have hI:=hD ((jl.O.U d9.O).by_own e4.O eg.O (by decide) (by decide))
       have j7:Hd (bD b4 (λb=>b5.heap.size<=b/\b≠z/\b≠L.gb) (.slice f8 iz fr) (aF p a8)):=hD ((jj.O.by_own e4.O eg.O (by decide) (by decide)).mo λb x=>by
        have h7:dq.heap.size<=b:=x.elim (λe=>e.1) (λe=>lT (lT hQ.O.1 hQ.O.2) e);exact⟨lT C.O.st.size h7,λe=>absurd i8 (by rw[<-e];exact zC.2 h7),λe=>absurd i4 (by rw[<-e];exact zC.2 h7)⟩)
       have hP:=hD (e4.O.J (d9.O.J hO.O nF) (λe=>aA eg.O (d9.O.J hO.O nF) (by decide) e));obtain⟨X,b0⟩:=eX ((a4.flatMap (aF p)).length);obtain⟨H,K,V⟩ :∃H K,L.dv=.slice H X K:=by rw[b0];obtain⟨_,_,G,_⟩:=hI.O;exact bR G
       have dk:=hD V;have hJ:Hd (bD b4 (λb=>b5.heap.size<=b/\b≠z/\b≠L.gb) (.slice H X K) (a4.flatMap (aF p))):=hD (by rw[<-V];exact hI.O);have hM:Hd (∃hC,b4.ownsRow 0 77 7 (.slice H X K) (a4.flatMap (aF p)).length hC):=hD (by obtain⟨hC,_,G,_⟩:=hJ.O;exact⟨_,G⟩)
       have k8:Hd ((a4.flatMap (aF p)).length+(aF p a8).length<=1000000):=hD (by
        have da:=rK gB.O;rw[zL,yk] at da;simp at da;have eq:=a9.O.fl;have h6:(a4.flatMap (aF p)).length=(a4.map λa=>(aF p a).length).sum:=List.length_flatMap;omega)
       have a7:=fa.O.J.I 11;simp[cT,V] at a7;have m2:=hD ga;clear bk a2 bz lo lw V b0 i8 i4 ga
       go_wp2_with (at_builtin;refine pg rfl _ _ rfl (.slice H X K) rfl (.slice f8 iz fr) rfl (a4.flatMap (aF p)) (aF p a8) hJ.O j7.O k8.O ?_;intro ku fq gf f3 l9;obtain⟨hv,gs,h5,l2⟩ :∃n A c,ku=.slice A n c:=(by obtain⟨_,_,G,_⟩:=gf;exact⟨_,bR G⟩);subst l2;have ei:=f3.J fa.O.J (λe=>by obtain⟨_,G⟩:=hM.O;exact aA G fa.O.J (by decide) e);have kt:=ei.I 11;have m4:=ei.fz 11;simp[cT] at kt)
       go_meet
       case rel=>
        obtain⟨hC,G⟩:=hM.O;have j8:=fa.O.by_own f3 G (by decide) (by decide) (by decide);have gq:aa (λb=>b=z) fq (fq.setCell ⟨z,11,none⟩ (.slice gs hv h5)):=af _ _ _ _;have j6:jA fq (.slice gt hz e7) (rs++ [bw p a8]):=f3.owns hS.O (λb x e=>lv hS.O G (by decide) b x e);have j4:=f3.J hP.O (λe=>aA G hP.O (by decide) e);have lg:ac b5 fq:=((gD.O.trans d9.O).trans' e4.O λb e=>.inr (C.O.nw b e)).trans' f3 λb e=>.inr (C.O.nd b (by rw[dk.O];exact e))
        refine⟨gt,hz,e7,0,rfl,rfl,{L with iv:=iv,dv:=.slice gs hv h5},_,rs++ [bw p a8],a4++ [a8],⟨j8.dv_set (.slice gs hv h5),gq.owns j6 (λb x e=>aA j6 ei (by decide) (by rw[x,e])),?_,lg.trans' gq (λb e=>.inr (by rw[e];exact C.O.nb.1)),C.O.pa,C.O.nb,?_,?_,kl.O,?_,gq.J j4 (λe=>ae.ne_ j4 ei (by decide) e),rK gB.O⟩,λe=>absurd rfl e,λ_ e=>absurd (show(12:Int)=13\/(12:Int)=14 from e) (by decide),λ_ _ _=>⟨gB.O,?_⟩⟩
        ·have:=gf.by_type gq ei (by decide) (by decide)
         rw[zL]
         simpa using this
        ·exact λb x=>(ks.O b x).elim (C.O.ni b) λe=>lT C.O.st.size e
        ·exact λb x=>(l9 b x).elim (λe=>C.O.nd b (by rw[dk.O];exact e)) λe=>lT (((gD.O.trans d9.O).trans' e4.O λb e=>.inr (C.O.nw b e))).size e
        ·have:=C.O.kl
         show s.kd+1=(a4++ [a8]).length;rw[yk];have eq:s.kd=a4.length:=this;rw[eq];rfl
        ·have:=ch.O
         show(s.left-1)-(s.left-1) / 2<s.left;omega
    ·have l4:(k==12)=false:=bF hf
     go_wp2_with fail;go_meet
     case rel=>exact⟨f9,rs.length,fs,0,rfl,rfl,L,f7,rs,a4,C.O,λe=>absurd rfl e,λ_ l1=>⟨s,c3.O.i,lx c5.O.1.symm,rfl,dm.O.symm,by rw[c5.O.2];exact sM c5.O.1.symm (by rw[<-dm.O];exact .inr l1)⟩,λ_ el em=>by rw[c5.O.2];exact vt c3.O.i c6.O a9.O c5.O.1.symm (by rw[<-dm.O];exact λe=>e.elim hf (λe=>e.elim el em))⟩
   case rest=>
    obtain⟨e2,dz,e6,b6,rfl,rfl,ci,s7,az,P,hu,f6,dd,e1⟩:=hcut;obtain⟨cB,e8⟩:=eX wc;subst e8;clear C;obtain⟨b1,bp,bq,br,bt⟩:=hu.op.gE5;have ba:=hD hu;clear hu
    by_cases bf:b6=0
    ·subst bf
     clear f6
     by_cases el:k=13
     ·subst el
      obtain⟨s0,av,f4,c8,f0,hs⟩:=dd rfl (.inl rfl);subst hs;have d7:=hD av;have dp:=hD f0;have ch:=hD (aI f4 c8);have dl:=hD (qd (.slice e2 dz e6) az ba.O.r ba.O.ws av.f1 (by show s0.first-1+az.length=s0.into.length;rw[av.il];exact av.fl) (by show s0.into.length<=16;rw[av.il];exact av.k16) av.k16 av.ii);unfold rI at dl
      have hm:dz=az.length:=by
       obtain⟨_,_,e⟩:=bR ba.O.ws;injection e
      subst hm;clear dd e1 av f4 c8 f0
      by_cases b7:cD (s0.ws az)=0
      ·have ec:=hD b7
       clear b7;have cq:=hD (dl.O.mono λe w' c7=>c7.2 ec.O);have k5:=hD (((d7.O.join c6.O a9.O ch.O.1 (by rw[dp.O])).2 ec.O))
       go_upto_region 14 with(go_at_call 43;refine cq.O.mono ?_;rintro e W8 ⟨rfl,d1,c4⟩)
       have a6:=ba.O.run d1 c4 rfl;clear b1 bp bq br bt;obtain⟨b1,bp,bq,br,bt⟩:=a6.op.gE5;have l0:=hD d1;clear d1 c4;go_wp2_with fail;have d1:=l0.O;refine⟨⟨ci,_,[],P,⟨d1,k5.O,⟨rfl,.inl ⟨rfl,rfl⟩⟩,a6.dn,a6.st,a6.pa,a6.nb,a6.ni,a6.nd,λb x=>by cases x⟩⟩,?_⟩;rw[hN.O,d1.leftOf];show s0.left-1<s.left;have da:=ch.O.1;have eq:=ch.O.2;omega
      ·have ex:(cD (s0.ws az)==0)=false:=bF b7
       obtain⟨Y,bx⟩:=eX (cD (s0.ws az));have ad:Hd (bw p t=⟨0,Y⟩/\aR p t=P):=hD (by rw[bx];exact(d7.O.join c6.O a9.O ch.O.1 (by rw[dp.O])).1 b7);have ds:(Y==0)=false:=by rw[bx];exact ex
       have dw:(Y !=0)=true:=by rw[bne_iff_ne,bx];exact b7
       have cq:=hD (dl.O.mono λe w' c7=>c7.1 b7);unfold ep.ws at bx;clear b7 ex;rw[show cD (List.zip (s0.into.drop (s0.first-1)) az)=Y from bx.symm] at cq;clear bx
       go_upto_region 14 with(go_at_call 43;refine cq.O.mono ?_;rintro e W8 ⟨rfl,c4⟩)
       have a6:=hD (ba.O.U c4);obtain⟨b1,bp,bq,br,bt⟩:=a6.O.op.gE5;go_upto_region 18 with fail;obtain⟨y,Z⟩ :∃q,q=W8.heap.size:=⟨_,rfl⟩
       obtain⟨W9,R⟩:=eX (W8.alloc (.cells #[.int .i64 0,.int .i64 Y] 35));rw[<-R,<-Z];have Q:ac W8 W9:=by rw[R];exact oR.alloc _
       have a1:Hd (ae W9 y 35 #[.int .i64 0,.int .i64 Y]):=hD (by rw[R,Z];exact bN);have j:=hD (a6.O.U Q);have cn:Hd (f+1+1<y):=hD (by rw[Z];exact(a6.O.st.J cg.O nF).lt);clear ds dw R Z Q b1 bp bq br bt;obtain⟨X,b0⟩:=eX ((P.flatMap (aF p)).length);obtain⟨H,K,V⟩ :∃H K,ci.dv=.slice H X K:=by rw[b0];obtain⟨_,_,a2,_⟩:=j.O.dn;exact bR a2
       have dk:=hD V;obtain⟨a3,an⟩:=eX ((P.length:Int):Int);have am:=j.O.r.J.I 8;have a7:=j.O.r.J.I 11;simp[cT,V] at a7;rw[show(cT ci p.length t _)[8]?=some (.int .i64 a3) by rw[an,<-j.O.kl];rfl] at am;have cr:=hD an;have ai:=j.O.st.J eb.O nF;have bb:=j.O.st.J cg.O nF;obtain⟨cb,cd,ce,cf⟩:=ai.gE4;obtain⟨c0,c1⟩:=a1.O.gE2;have ab:=hD bb;have cw:Hd (∀W q cs,ac W9 W->ae W q 77 cs->f+1+1≠q/\y≠q):=hD λW q cs B x=>⟨ae.ne_ (B.J ab.O nF) x (by decide),ae.ne_ (B.J a1.O nF) x (by decide)⟩
       have ck:Hd (gW ⟨t,⟨0,Y⟩,P.length⟩ (D,N)= [.string tp,.int .i64 fn,.slice D al N,.int .i64 aE,.int .i64 0,.int .i64 Y,.int .i64 a3]):=hD (by rw[cr.O,a5.O.2.1,a5.O.2.2.1,a5.O.2.2.2.1,a5.O.2.2.2.2];rfl);have cp:Hd (aJ W9 (λb=>b2 b\/w.heap.size<=b) D t.args):=hD ((ee.O.kp j.O.st nG).mo λ_ e=>.inl e);have cm:Hd (bD W9 (λb=>b2 b\/w.heap.size<=b) (.slice H X K) (P.flatMap (aF p))):=hD (by rw[<-V];exact j.O.dn.mo λb x=>.inr (lT b3.O.size x.1));have cv:Hd ((P.flatMap (aF p)).length<=100000):=hD (lT j.O.ll (lT a9.O.fl (by decide)))
       have E:Hd (∀W,aa (λb=>b=f+1+1) W9 W->aa (λb=>b=f+1+1) W9 W/\W.cell? ⟨z,8,none⟩=some (.int .i64 a3)/\W.cell? ⟨z,11,none⟩=some (.slice H X K)/\W.cell? ⟨y,0,none⟩=some (.int .i64 0)/\W.cell? ⟨y,1,none⟩=some (.int .i64 Y)/\W.cell? ⟨f+1,0,none⟩=some (.string tp)/\W.cell? ⟨f+1,1,none⟩=some (.int .i64 fn)/\W.cell? ⟨f+1,2,none⟩=some (.slice D al N)/\W.cell? ⟨f+1,3,none⟩=some (.int .i64 aE)):=hD λW B=>by
        have bc:z≠f+1+1:=λe=>ae.ne_ ab.O j.O.r.J (by decide) e.symm
        have d0:y≠f+1+1:=λe=>yQ _ (by have:=cn.O;rw[e] at this;exact this)
        have bo:=B.J a1.O d0;have G:=B.J ai (Yl (Yf _));exact⟨B,(B.I (p:=⟨z,8,none⟩) j.O.r.J.lt bc).trans am,(B.I (p:=⟨z,11,none⟩) j.O.r.J.lt bc).trans a7,bo.I 0,bo.I 1,G.I 0,G.I 1,G.I 2,G.I 3⟩
       have g0:=E.O W9 oR;clear V an ai bb b0 am a7 cb cd ce cf c0 c1
       go_region_held3 (λW=>aa (λb=>b=f+1+1) W9 W/\W.cell? ⟨z,8,none⟩=some (.int .i64 a3)/\W.cell? ⟨z,11,none⟩=some (.slice H X K)/\W.cell? ⟨y,0,none⟩=some (.int .i64 0)/\W.cell? ⟨y,1,none⟩=some (.int .i64 Y)/\W.cell? ⟨f+1,0,none⟩=some (.string tp)/\W.cell? ⟨f+1,1,none⟩=some (.int .i64 fn)/\W.cell? ⟨f+1,2,none⟩=some (.slice D al N)/\W.cell? ⟨f+1,3,none⟩=some (.int .i64 aE))
        (with_reducible first|exact E.O _ bm.O|exact E.O _ (aa.setCell (aa.setCell bm.O (Or.inl rfl) _) (Or.inl rfl) _)|exact E.O _ (aa.alloc oR _)|exact E.O _ (aa.alloc (aa.drew oR) _)|exact E.O _ (aa.drew oR)|exact E.O _ oR|fail)
        (first
         |(refine gE rfl _ _ rfl rfl _ rfl ⟨t,⟨0,Y⟩,P.length⟩ (D,N) _ ck.O (by first|exact bN|exact bN.drew) (cp.O.kp (S:=λ_=>False) (by repeat (first|with_reducible exact oR|with_reducible refine aa.drew ?_|with_reducible refine aa.alloc ?_ _)) nG) (P.flatMap (aF p)) (cm.O.U (by repeat (first|with_reducible exact oR|with_reducible refine aa.drew ?_|with_reducible refine aa.alloc ?_ _))) cv.O (λd6 w' bk a2 bz=>?_)
           obtain⟨kb,gm,aw,kn⟩:=lP a2 bz (W9:=W9) (by repeat (first|with_reducible exact oR|with_reducible refine aa.drew ?_|with_reducible refine aa.alloc ?_ _)) (by first|exact bN|exact bN.drew) (lR) cw.O ab.O a1.O;have d3:=hD aw;have bm:Hd (aa (λb=>b=f+1+1) W9 w'):=hD (aw.mono λ_ e=>e.elim);clear aw;have d4:=kb.I 0;have d5:=kb.I 1;have gn:=kb.fz 0;have go:=kb.fz 1;simp at d4 d5)
         |fail)
       go_wp2_with fail;have d2:=(kb.s_ 0 (.int .i64 0)).s_ 1 (.int .i64 Y);have Q:=(af w' (f+1+1) 0 (.int .i64 0)).trans (af _ (f+1+1) 1 (.int .i64 Y));refine bodyPost_ret (aO Tryz.results13 rfl d2 Tryz.underlying35 rfl (by kernel_rfl)) rfl ?_;refine⟨d6,by rw[ad.O.1];rfl,?_,?_,λb x=>lT b3.O.size (lT j.O.st.size (kn b x))⟩
       ·rw[me ad.O.2,ad.O.1]
        exact bk.by_type Q kb (by decide) (by decide)
       ·exact(b3.O.trans (j.O.st.trans d3.O)).trans' Q λb e=>.inr (by rw[e,e3.O];exact zJ (yX _))
     ·by_cases em:k=14
      ·subst em
       obtain⟨s0,av,f4,c8,f0,hs⟩:=dd rfl (.inr rfl);subst hs;have d7:=hD av;have dp:=hD f0;have ch:=hD (aI f4 c8);have dl:=hD (qd (.slice e2 dz e6) az ba.O.r ba.O.ws av.f1 (by show s0.first-1+az.length=s0.into.length;rw[av.il];exact av.fl) (by show s0.into.length<=16;rw[av.il];exact av.k16) av.k16 av.ii);unfold rI at dl
       have hm:dz=az.length:=by
        obtain⟨_,_,e⟩:=bR ba.O.ws;injection e
       subst hm;clear dd e1 av f4 c8 f0
       by_cases b7:cD (s0.ws az)=0
       ·have ec:=hD b7
        clear b7;have cq:=hD (dl.O.mono λe w' c7=>c7.2 ec.O);have gb:=d7.O.ret ch.O.1 (by rw[dp.O]);have c9:=d7.O.op c6.O a9.O;rw[dp.O] at gb c9;obtain⟨a,rfl⟩ :∃h0:Nat,a=(h0:Int):=ym c9.a.1;obtain⟨b8,dr⟩:=eX (ct (dC (s0.ws az) s0.rg) (a:Int));have ad:Hd (bw p t=⟨b8,0⟩/\aR p t=P):=hD ⟨by rw[dr];exact gb.2.1 ec.O,gb.2.2⟩;obtain⟨rl,e9⟩:=eX s0.rg.length
        have i3:a<rl:=by
         have da:=c9.ar (.inr (.inr rfl));have eq:=d7.O.b.rl;rw[<-eq,<-e9] at da;exact yB.1 da
        have d8:=hD (aI dr (aI e9 i3));clear gb c9 dr e9 i3
        go_upto_region 14 with(go_at_call 43;refine cq.O.mono ?_;rintro e W8 ⟨rfl,d1,c4⟩)
        have a6:=hD (ba.O.run d1 c4 rfl);clear d1 c4 b1 bp bq br bt;obtain⟨b1,bp,bq,br,bt⟩:=a6.O.op.gE5;go_upto_region 17 with fail;clear b1 bp bq br bt;obtain⟨y,Z⟩ :∃q,q=W8.heap.size:=⟨_,rfl⟩
        obtain⟨W9,R⟩:=eX (W8.alloc (.cells #[.int .i64 0,.int .i64 0] 35));rw[<-R,<-Z];have Q:ac W8 W9:=by rw[R];exact oR.alloc _
        have ej:ae W9 y 35 #[.int .i64 0,.int .i64 0]:=by rw[R,Z];exact bN
        have j:=hD (a6.O.U Q);have cn:Hd (f+1+1<y):=hD (by rw[Z];exact(a6.O.st.J cg.O nF).lt);have gx:=hD ej
        have k2:Hd (∀b,(Value.slice e2 az.length e6).ownBlock=some b->b≠y):=hD λb x e=>by
         have:=rt a6.O.ws x;rw[e,Z] at this;exact yQ _ this
        have k1:Hd (b5.heap.size<=y):=hD (by rw[Z];exact a6.O.st.size);obtain⟨b1,bp,bq,br,bt⟩:=j.O.op.gE5;obtain⟨c0,c1⟩:=ej.gE2;have hG:=ej.fz 0;have hH:=ej.fz 1;have i1:=j.O.r.J.I 5;simp[cT,fR,<-d8.O.2.1] at i1;have e7:=j.O.r.reg (k:=a) (by show a<(dC _ _).length;rw[fR,<-d8.O.2.1];exact d8.O.2.2);rw[show(dC (List.zip (s0.into.drop (s0.first-1)) az) s0.rg).getD a 0=b8 by rw[d8.O.1];unfold ct ep.ws;rw[yo]] at e7;obtain⟨l8,gf⟩:=ca d8.O.2.2;clear R Z Q ej
        go_still_tail 8,(by kernel_rfl)
        change wpList _ _ _ _ _ W9.drew;clear i1 e7 c0 c1 hG hH;have x:=gx.O.drew;obtain⟨c0,c1⟩:=x.gE2;have hG:=x.fz 0;have hH:=x.fz 1;clear x;go_upto_region 18 with fail;obtain⟨b4,g2⟩:=eX ((W9.setCell ⟨y,0,none⟩ (.int .i64 b8)).drew);rw[<-g2];have j1:aa (λb=>b=y) W9 b4:=by rw[g2];exact(af _ _ _ _).drew
        have a1:Hd (ae b4 y 35 #[.int .i64 b8,.int .i64 0]):=hD (by rw[g2];exact(gx.O.s_ 0 _).drew);have b9:=hD (j.O.res gx.O k1.O k2.O j1);clear g2 j1 b1 bp bq br bt c0 c1 hG hH l8 gf;obtain⟨X,b0⟩:=eX ((P.flatMap (aF p)).length);obtain⟨H,K,V⟩ :∃H K,ci.dv=.slice H X K:=by rw[b0];obtain⟨_,_,a2,_⟩:=b9.O.dn;exact bR a2
        have dk:=hD V;obtain⟨a3,an⟩:=eX ((P.length:Int):Int);have am:=b9.O.r.J.I 8;have a7:=b9.O.r.J.I 11;simp[cT,V] at a7;rw[show(cT ci p.length t _)[8]?=some (.int .i64 a3) by rw[an,<-b9.O.kl];rfl] at am;have cr:=hD an;have ai:=b9.O.st.J eb.O nF;have bb:=b9.O.st.J cg.O nF;obtain⟨cb,cd,ce,cf⟩:=ai.gE4;obtain⟨c0,c1⟩:=a1.O.gE2;have ab:=hD bb;have cw:Hd (∀W q cs,ac b4 W->ae W q 77 cs->f+1+1≠q/\y≠q):=hD λW q cs B x=>⟨ae.ne_ (B.J ab.O nF) x (by decide),ae.ne_ (B.J a1.O nF) x (by decide)⟩
        have ck:Hd (gW ⟨t,⟨b8,0⟩,P.length⟩ (D,N)= [.string tp,.int .i64 fn,.slice D al N,.int .i64 aE,.int .i64 b8,.int .i64 0,.int .i64 a3]):=hD (by rw[cr.O,a5.O.2.1,a5.O.2.2.1,a5.O.2.2.2.1,a5.O.2.2.2.2];rfl);have cp:Hd (aJ b4 (λb=>b2 b\/w.heap.size<=b) D t.args):=hD ((ee.O.kp b9.O.st nG).mo λ_ e=>.inl e);have cm:Hd (bD b4 (λb=>b2 b\/w.heap.size<=b) (.slice H X K) (P.flatMap (aF p))):=hD (by rw[<-V];exact b9.O.dn.mo λb x=>.inr (lT b3.O.size x.1));have cv:Hd ((P.flatMap (aF p)).length<=100000):=hD (lT b9.O.ll (lT a9.O.fl (by decide)))
        have E:Hd (∀W,aa (λb=>b=f+1+1) b4 W->aa (λb=>b=f+1+1) b4 W/\W.cell? ⟨z,8,none⟩=some (.int .i64 a3)/\W.cell? ⟨z,11,none⟩=some (.slice H X K)/\W.cell? ⟨y,0,none⟩=some (.int .i64 b8)/\W.cell? ⟨y,1,none⟩=some (.int .i64 0)/\W.cell? ⟨f+1,0,none⟩=some (.string tp)/\W.cell? ⟨f+1,1,none⟩=some (.int .i64 fn)/\W.cell? ⟨f+1,2,none⟩=some (.slice D al N)/\W.cell? ⟨f+1,3,none⟩=some (.int .i64 aE)):=hD λW B=>by
         have bc:z≠f+1+1:=λe=>ae.ne_ ab.O b9.O.r.J (by decide) e.symm
         have d0:y≠f+1+1:=λe=>yQ _ (by have:=cn.O;rw[e] at this;exact this)
         have bo:=B.J a1.O d0;have G:=B.J ai (Yl (Yf _));exact⟨B,(B.I (p:=⟨z,8,none⟩) b9.O.r.J.lt bc).trans am,(B.I (p:=⟨z,11,none⟩) b9.O.r.J.lt bc).trans a7,bo.I 0,bo.I 1,G.I 0,G.I 1,G.I 2,G.I 3⟩
        have g0:=E.O b4 oR;clear V an ai bb b0 am a7 cb cd ce cf c0 c1
        go_region_held3 (λW=>aa (λb=>b=f+1+1) b4 W/\W.cell? ⟨z,8,none⟩=some (.int .i64 a3)/\W.cell? ⟨z,11,none⟩=some (.slice H X K)/\W.cell? ⟨y,0,none⟩=some (.int .i64 b8)/\W.cell? ⟨y,1,none⟩=some (.int .i64 0)/\W.cell? ⟨f+1,0,none⟩=some (.string tp)/\W.cell? ⟨f+1,1,none⟩=some (.int .i64 fn)/\W.cell? ⟨f+1,2,none⟩=some (.slice D al N)/\W.cell? ⟨f+1,3,none⟩=some (.int .i64 aE))
         (with_reducible first|exact E.O _ bm.O|exact E.O _ (aa.setCell (aa.setCell bm.O (Or.inl rfl) _) (Or.inl rfl) _)|exact E.O _ (aa.alloc oR _)|exact E.O _ (aa.alloc (aa.drew oR) _)|exact E.O _ (aa.drew oR)|exact E.O _ oR|fail)
         (first
          |(refine gE rfl _ _ rfl rfl _ rfl ⟨t,⟨b8,0⟩,P.length⟩ (D,N) _ ck.O (by first|exact bN|exact bN.drew) (cp.O.kp (S:=λ_=>False) (by repeat (first|with_reducible exact oR|with_reducible refine aa.drew ?_|with_reducible refine aa.alloc ?_ _)) nG) (P.flatMap (aF p)) (cm.O.U (by repeat (first|with_reducible exact oR|with_reducible refine aa.drew ?_|with_reducible refine aa.alloc ?_ _))) cv.O (λd6 w' bk a2 bz=>?_)
            obtain⟨kb,gm,aw,kn⟩:=lP a2 bz (W9:=b4) (by repeat (first|with_reducible exact oR|with_reducible refine aa.drew ?_|with_reducible refine aa.alloc ?_ _)) (by first|exact bN|exact bN.drew) (lR) cw.O ab.O a1.O;have d3:=hD aw;have bm:Hd (aa (λb=>b=f+1+1) b4 w'):=hD (aw.mono λ_ e=>e.elim);clear aw;have d4:=kb.I 0;have d5:=kb.I 1;have gn:=kb.fz 0;have go:=kb.fz 1;simp at d4 d5)
          |fail)
        go_wp2_with fail;have d2:=(kb.s_ 0 (.int .i64 b8)).s_ 1 (.int .i64 0);have Q:=(af w' (f+1+1) 0 (.int .i64 b8)).trans (af _ (f+1+1) 1 (.int .i64 0));refine bodyPost_ret (aO Tryz.results13 rfl d2 Tryz.underlying35 rfl (by kernel_rfl)) rfl ?_;refine⟨d6,by rw[ad.O.1];rfl,?_,?_,λb x=>lT b3.O.size (lT b9.O.st.size (kn b x))⟩
        ·rw[me ad.O.2,ad.O.1]
         exact bk.by_type Q kb (by decide) (by decide)
        ·exact(b3.O.trans (b9.O.st.trans d3.O)).trans' Q λb e=>.inr (by rw[e,e3.O];exact zJ (yX _))
       ·have ex:(cD (s0.ws az)==0)=false:=bF b7
        obtain⟨Y,bx⟩:=eX (cD (s0.ws az));have ad:Hd (bw p t=⟨0,Y⟩/\aR p t=P):=hD (by rw[bx];exact⟨(d7.O.ret ch.O.1 (by rw[dp.O])).1 b7,(d7.O.ret ch.O.1 (by rw[dp.O])).2.2⟩);have ds:(Y==0)=false:=by rw[bx];exact ex
        have dw:(Y !=0)=true:=by rw[bne_iff_ne,bx];exact b7
        have cq:=hD (dl.O.mono λe w' c7=>c7.1 b7);unfold ep.ws at bx;clear b7 ex;rw[show cD (List.zip (s0.into.drop (s0.first-1)) az)=Y from bx.symm] at cq;clear bx
        go_upto_region 14 with(go_at_call 43;refine cq.O.mono ?_;rintro e W8 ⟨rfl,c4⟩)
        have a6:=hD (ba.O.U c4);obtain⟨b1,bp,bq,br,bt⟩:=a6.O.op.gE5;go_upto_region 18 with fail;obtain⟨y,Z⟩ :∃q,q=W8.heap.size:=⟨_,rfl⟩
        obtain⟨W9,R⟩:=eX (W8.alloc (.cells #[.int .i64 0,.int .i64 Y] 35));rw[<-R,<-Z];have Q:ac W8 W9:=by rw[R];exact oR.alloc _
        have a1:Hd (ae W9 y 35 #[.int .i64 0,.int .i64 Y]):=hD (by rw[R,Z];exact bN);have j:=hD (a6.O.U Q);have cn:Hd (f+1+1<y):=hD (by rw[Z];exact(a6.O.st.J cg.O nF).lt);clear ds dw R Z Q b1 bp bq br bt;obtain⟨X,b0⟩:=eX ((P.flatMap (aF p)).length);obtain⟨H,K,V⟩ :∃H K,ci.dv=.slice H X K:=by rw[b0];obtain⟨_,_,a2,_⟩:=j.O.dn;exact bR a2
        have dk:=hD V;obtain⟨a3,an⟩:=eX ((P.length:Int):Int);have am:=j.O.r.J.I 8;have a7:=j.O.r.J.I 11;simp[cT,V] at a7;rw[show(cT ci p.length t _)[8]?=some (.int .i64 a3) by rw[an,<-j.O.kl];rfl] at am;have cr:=hD an;have ai:=j.O.st.J eb.O nF;have bb:=j.O.st.J cg.O nF;obtain⟨cb,cd,ce,cf⟩:=ai.gE4;obtain⟨c0,c1⟩:=a1.O.gE2;have ab:=hD bb;have cw:Hd (∀W q cs,ac W9 W->ae W q 77 cs->f+1+1≠q/\y≠q):=hD λW q cs B x=>⟨ae.ne_ (B.J ab.O nF) x (by decide),ae.ne_ (B.J a1.O nF) x (by decide)⟩
        have ck:Hd (gW ⟨t,⟨0,Y⟩,P.length⟩ (D,N)= [.string tp,.int .i64 fn,.slice D al N,.int .i64 aE,.int .i64 0,.int .i64 Y,.int .i64 a3]):=hD (by rw[cr.O,a5.O.2.1,a5.O.2.2.1,a5.O.2.2.2.1,a5.O.2.2.2.2];rfl);have cp:Hd (aJ W9 (λb=>b2 b\/w.heap.size<=b) D t.args):=hD ((ee.O.kp j.O.st nG).mo λ_ e=>.inl e);have cm:Hd (bD W9 (λb=>b2 b\/w.heap.size<=b) (.slice H X K) (P.flatMap (aF p))):=hD (by rw[<-V];exact j.O.dn.mo λb x=>.inr (lT b3.O.size x.1));have cv:Hd ((P.flatMap (aF p)).length<=100000):=hD (lT j.O.ll (lT a9.O.fl (by decide)))
        have E:Hd (∀W,aa (λb=>b=f+1+1) W9 W->aa (λb=>b=f+1+1) W9 W/\W.cell? ⟨z,8,none⟩=some (.int .i64 a3)/\W.cell? ⟨z,11,none⟩=some (.slice H X K)/\W.cell? ⟨y,0,none⟩=some (.int .i64 0)/\W.cell? ⟨y,1,none⟩=some (.int .i64 Y)/\W.cell? ⟨f+1,0,none⟩=some (.string tp)/\W.cell? ⟨f+1,1,none⟩=some (.int .i64 fn)/\W.cell? ⟨f+1,2,none⟩=some (.slice D al N)/\W.cell? ⟨f+1,3,none⟩=some (.int .i64 aE)):=hD λW B=>by
         have bc:z≠f+1+1:=λe=>ae.ne_ ab.O j.O.r.J (by decide) e.symm
         have d0:y≠f+1+1:=λe=>yQ _ (by have:=cn.O;rw[e] at this;exact this)
         have bo:=B.J a1.O d0;have G:=B.J ai (Yl (Yf _));exact⟨B,(B.I (p:=⟨z,8,none⟩) j.O.r.J.lt bc).trans am,(B.I (p:=⟨z,11,none⟩) j.O.r.J.lt bc).trans a7,bo.I 0,bo.I 1,G.I 0,G.I 1,G.I 2,G.I 3⟩
        have g0:=E.O W9 oR;clear V an ai bb b0 am a7 cb cd ce cf c0 c1
        go_region_held3 (λW=>aa (λb=>b=f+1+1) W9 W/\W.cell? ⟨z,8,none⟩=some (.int .i64 a3)/\W.cell? ⟨z,11,none⟩=some (.slice H X K)/\W.cell? ⟨y,0,none⟩=some (.int .i64 0)/\W.cell? ⟨y,1,none⟩=some (.int .i64 Y)/\W.cell? ⟨f+1,0,none⟩=some (.string tp)/\W.cell? ⟨f+1,1,none⟩=some (.int .i64 fn)/\W.cell? ⟨f+1,2,none⟩=some (.slice D al N)/\W.cell? ⟨f+1,3,none⟩=some (.int .i64 aE))
         (with_reducible first|exact E.O _ bm.O|exact E.O _ (aa.setCell (aa.setCell bm.O (Or.inl rfl) _) (Or.inl rfl) _)|exact E.O _ (aa.alloc oR _)|exact E.O _ (aa.alloc (aa.drew oR) _)|exact E.O _ (aa.drew oR)|exact E.O _ oR|fail)
         (first
          |(refine gE rfl _ _ rfl rfl _ rfl ⟨t,⟨0,Y⟩,P.length⟩ (D,N) _ ck.O (by first|exact bN|exact bN.drew) (cp.O.kp (S:=λ_=>False) (by repeat (first|with_reducible exact oR|with_reducible refine aa.drew ?_|with_reducible refine aa.alloc ?_ _)) nG) (P.flatMap (aF p)) (cm.O.U (by repeat (first|with_reducible exact oR|with_reducible refine aa.drew ?_|with_reducible refine aa.alloc ?_ _))) cv.O (λd6 w' bk a2 bz=>?_)
            obtain⟨kb,gm,aw,kn⟩:=lP a2 bz (W9:=W9) (by repeat (first|with_reducible exact oR|with_reducible refine aa.drew ?_|with_reducible refine aa.alloc ?_ _)) (by first|exact bN|exact bN.drew) (lR) cw.O ab.O a1.O;have d3:=hD aw;have bm:Hd (aa (λb=>b=f+1+1) W9 w'):=hD (aw.mono λ_ e=>e.elim);clear aw;have d4:=kb.I 0;have d5:=kb.I 1;have gn:=kb.fz 0;have go:=kb.fz 1;simp at d4 d5)
          |fail)
        go_wp2_with fail;have d2:=(kb.s_ 0 (.int .i64 0)).s_ 1 (.int .i64 Y);have Q:=(af w' (f+1+1) 0 (.int .i64 0)).trans (af _ (f+1+1) 1 (.int .i64 Y));refine bodyPost_ret (aO Tryz.results13 rfl d2 Tryz.underlying35 rfl (by kernel_rfl)) rfl ?_;refine⟨d6,by rw[ad.O.1];rfl,?_,?_,λb x=>lT b3.O.size (lT j.O.st.size (kn b x))⟩
        ·rw[me ad.O.2,ad.O.1]
         exact bk.by_type Q kb (by decide) (by decide)
        ·exact(b3.O.trans (j.O.st.trans d3.O)).trans' Q λb e=>.inr (by rw[e,e3.O];exact zJ (yX _))
      ·obtain⟨ih,iw⟩:=e1 rfl el em
       have k3:=hD ih;have k6:=hD iw;have l4:(k==13)=false:=bF el;have m6:(k==14)=false:=bF em;clear dd e1 ih iw;go_wp2_with fail;refine⟨⟨ci,s7,az,P,ba.O.l k3.O⟩,?_⟩;rw[hN.O,ba.O.r.leftOf];exact k6.O
    ·have ad:=hD (f6 bf)
     have ds:(b6==0)=false:=bF bf;have dw:(b6 !=0)=true:=by rw[bne_iff_ne];exact bf
     clear f6 dd e1;go_upto_region 18 with fail;obtain⟨y,Z⟩ :∃q,q=cB.heap.size:=⟨_,rfl⟩
     obtain⟨W9,R⟩:=eX (cB.alloc (.cells #[.int .i64 0,.int .i64 b6] 35));rw[<-R,<-Z];have Q:ac cB W9:=by rw[R];exact oR.alloc _
     have a1:Hd (ae W9 y 35 #[.int .i64 0,.int .i64 b6]):=hD (by rw[R,Z];exact bN);have j:=hD (ba.O.U Q);have cn:Hd (f+1+1<y):=hD (by rw[Z];exact(ba.O.st.J cg.O nF).lt);clear ds dw R Z Q b1 bp bq br bt;obtain⟨X,b0⟩:=eX ((P.flatMap (aF p)).length);obtain⟨H,K,V⟩ :∃H K,ci.dv=.slice H X K:=by rw[b0];obtain⟨_,_,a2,_⟩:=j.O.dn;exact bR a2
     have dk:=hD V;obtain⟨a3,an⟩:=eX ((P.length:Int):Int);have am:=j.O.r.J.I 8;have a7:=j.O.r.J.I 11;simp[cT,V] at a7;rw[show(cT ci p.length t _)[8]?=some (.int .i64 a3) by rw[an,<-j.O.kl];rfl] at am;have cr:=hD an;have ai:=j.O.st.J eb.O nF;have bb:=j.O.st.J cg.O nF;obtain⟨cb,cd,ce,cf⟩:=ai.gE4;obtain⟨c0,c1⟩:=a1.O.gE2;have ab:=hD bb;have cw:Hd (∀W q cs,ac W9 W->ae W q 77 cs->f+1+1≠q/\y≠q):=hD λW q cs B x=>⟨ae.ne_ (B.J ab.O nF) x (by decide),ae.ne_ (B.J a1.O nF) x (by decide)⟩
     have ck:Hd (gW ⟨t,⟨0,b6⟩,P.length⟩ (D,N)= [.string tp,.int .i64 fn,.slice D al N,.int .i64 aE,.int .i64 0,.int .i64 b6,.int .i64 a3]):=hD (by rw[cr.O,a5.O.2.1,a5.O.2.2.1,a5.O.2.2.2.1,a5.O.2.2.2.2];rfl);have cp:Hd (aJ W9 (λb=>b2 b\/w.heap.size<=b) D t.args):=hD ((ee.O.kp j.O.st nG).mo λ_ e=>.inl e);have cm:Hd (bD W9 (λb=>b2 b\/w.heap.size<=b) (.slice H X K) (P.flatMap (aF p))):=hD (by rw[<-V];exact j.O.dn.mo λb x=>.inr (lT b3.O.size x.1));have cv:Hd ((P.flatMap (aF p)).length<=100000):=hD (lT j.O.ll (lT a9.O.fl (by decide)))
     have E:Hd (∀W,aa (λb=>b=f+1+1) W9 W->aa (λb=>b=f+1+1) W9 W/\W.cell? ⟨z,8,none⟩=some (.int .i64 a3)/\W.cell? ⟨z,11,none⟩=some (.slice H X K)/\W.cell? ⟨y,0,none⟩=some (.int .i64 0)/\W.cell? ⟨y,1,none⟩=some (.int .i64 b6)/\W.cell? ⟨f+1,0,none⟩=some (.string tp)/\W.cell? ⟨f+1,1,none⟩=some (.int .i64 fn)/\W.cell? ⟨f+1,2,none⟩=some (.slice D al N)/\W.cell? ⟨f+1,3,none⟩=some (.int .i64 aE)):=hD λW B=>by
      have bc:z≠f+1+1:=λe=>ae.ne_ ab.O j.O.r.J (by decide) e.symm
      have d0:y≠f+1+1:=λe=>yQ _ (by have:=cn.O;rw[e] at this;exact this)
      have bo:=B.J a1.O d0;have G:=B.J ai (Yl (Yf _));exact⟨B,(B.I (p:=⟨z,8,none⟩) j.O.r.J.lt bc).trans am,(B.I (p:=⟨z,11,none⟩) j.O.r.J.lt bc).trans a7,bo.I 0,bo.I 1,G.I 0,G.I 1,G.I 2,G.I 3⟩
     have g0:=E.O W9 oR;clear V an ai bb b0 am a7 cb cd ce cf c0 c1
     go_region_held3 (λW=>aa (λb=>b=f+1+1) W9 W/\W.cell? ⟨z,8,none⟩=some (.int .i64 a3)/\W.cell? ⟨z,11,none⟩=some (.slice H X K)/\W.cell? ⟨y,0,none⟩=some (.int .i64 0)/\W.cell? ⟨y,1,none⟩=some (.int .i64 b6)/\W.cell? ⟨f+1,0,none⟩=some (.string tp)/\W.cell? ⟨f+1,1,none⟩=some (.int .i64 fn)/\W.cell? ⟨f+1,2,none⟩=some (.slice D al N)/\W.cell? ⟨f+1,3,none⟩=some (.int .i64 aE))
      (with_reducible first|exact E.O _ bm.O|exact E.O _ (aa.setCell (aa.setCell bm.O (Or.inl rfl) _) (Or.inl rfl) _)|exact E.O _ (aa.alloc oR _)|exact E.O _ (aa.alloc (aa.drew oR) _)|exact E.O _ (aa.drew oR)|exact E.O _ oR|fail)
      (first
       |(refine gE rfl _ _ rfl rfl _ rfl ⟨t,⟨0,b6⟩,P.length⟩ (D,N) _ ck.O (by first|exact bN|exact bN.drew) (cp.O.kp (S:=λ_=>False) (by repeat (first|with_reducible exact oR|with_reducible refine aa.drew ?_|with_reducible refine aa.alloc ?_ _)) nG) (P.flatMap (aF p)) (cm.O.U (by repeat (first|with_reducible exact oR|with_reducible refine aa.drew ?_|with_reducible refine aa.alloc ?_ _))) cv.O (λd6 w' bk a2 bz=>?_)
         obtain⟨kb,gm,aw,kn⟩:=lP a2 bz (W9:=W9) (by repeat (first|with_reducible exact oR|with_reducible refine aa.drew ?_|with_reducible refine aa.alloc ?_ _)) (by first|exact bN|exact bN.drew) (lR) cw.O ab.O a1.O;have d3:=hD aw;have bm:Hd (aa (λb=>b=f+1+1) W9 w'):=hD (aw.mono λ_ e=>e.elim);clear aw;have d4:=kb.I 0;have d5:=kb.I 1;have gn:=kb.fz 0;have go:=kb.fz 1;simp at d4 d5)
       |fail)
     go_wp2_with fail;have d2:=(kb.s_ 0 (.int .i64 0)).s_ 1 (.int .i64 b6);have Q:=(af w' (f+1+1) 0 (.int .i64 0)).trans (af _ (f+1+1) 1 (.int .i64 b6));refine bodyPost_ret (aO Tryz.results13 rfl d2 Tryz.underlying35 rfl (by kernel_rfl)) rfl ?_;refine⟨d6,by rw[ad.O.1];rfl,?_,?_,λb x=>lT b3.O.size (lT j.O.st.size (kn b x))⟩
     ·rw[me ad.O.2,ad.O.1]
      exact bk.by_type Q kb (by decide) (by decide)
     ·exact(b3.O.trans (j.O.st.trans d3.O)).trans' Q λb e=>.inr (by rw[e,e3.O];exact zJ (yX _))
  ·have ad:Hd (bw p t=⟨0,bv⟩/\aR p t=a4):=hD (by rw[c5.O.1];exact xI c3.O.i c6.O a9.O (by rw[<-c5.O.1];exact bf))
   have ds:(bv==0)=false:=bF bf;have dw:(bv !=0)=true:=by rw[bne_iff_ne];exact bf
   go_upto_region 18 with fail;obtain⟨y,Z⟩ :∃q,q=dq.heap.size:=⟨_,rfl⟩
   obtain⟨W9,R⟩:=eX (dq.alloc (.cells #[.int .i64 0,.int .i64 bv] 35));rw[<-R,<-Z];have Q:ac dq W9:=by rw[R];exact oR.alloc _
   have a1:Hd (ae W9 y 35 #[.int .i64 0,.int .i64 bv]):=hD (by rw[R,Z];exact bN);have j:=hD (C.O.U Q);have cn:Hd (f+1+1<y):=hD (by rw[Z];exact(C.O.st.J cg.O nF).lt);clear ds dw R Z Q b1 bp bq br bt;obtain⟨X,b0⟩:=eX ((a4.flatMap (aF p)).length);obtain⟨H,K,V⟩ :∃H K,L.dv=.slice H X K:=by rw[b0];obtain⟨_,_,a2,_⟩:=j.O.dn;exact bR a2
   have dk:=hD V;obtain⟨a3,an⟩:=eX ((a4.length:Int):Int);have am:=j.O.r.J.I 8;have a7:=j.O.r.J.I 11;simp[cT,V] at a7;rw[show(cT L p.length t _)[8]?=some (.int .i64 a3) by rw[an,<-j.O.kl];rfl] at am;have cr:=hD an;have ai:=j.O.st.J eb.O nF;have bb:=j.O.st.J cg.O nF;obtain⟨cb,cd,ce,cf⟩:=ai.gE4;obtain⟨c0,c1⟩:=a1.O.gE2;have ab:=hD bb;have cw:Hd (∀W q cs,ac W9 W->ae W q 77 cs->f+1+1≠q/\y≠q):=hD λW q cs B x=>⟨ae.ne_ (B.J ab.O nF) x (by decide),ae.ne_ (B.J a1.O nF) x (by decide)⟩
   have ck:Hd (gW ⟨t,⟨0,bv⟩,a4.length⟩ (D,N)= [.string tp,.int .i64 fn,.slice D al N,.int .i64 aE,.int .i64 0,.int .i64 bv,.int .i64 a3]):=hD (by rw[cr.O,a5.O.2.1,a5.O.2.2.1,a5.O.2.2.2.1,a5.O.2.2.2.2];rfl);have cp:Hd (aJ W9 (λb=>b2 b\/w.heap.size<=b) D t.args):=hD ((ee.O.kp j.O.st nG).mo λ_ e=>.inl e);have cm:Hd (bD W9 (λb=>b2 b\/w.heap.size<=b) (.slice H X K) (a4.flatMap (aF p))):=hD (by rw[<-V];exact j.O.dn.mo λb x=>.inr (lT b3.O.size x.1));have cv:Hd ((a4.flatMap (aF p)).length<=100000):=hD (lT j.O.ll (lT a9.O.fl (by decide)))
   have E:Hd (∀W,aa (λb=>b=f+1+1) W9 W->aa (λb=>b=f+1+1) W9 W/\W.cell? ⟨z,8,none⟩=some (.int .i64 a3)/\W.cell? ⟨z,11,none⟩=some (.slice H X K)/\W.cell? ⟨y,0,none⟩=some (.int .i64 0)/\W.cell? ⟨y,1,none⟩=some (.int .i64 bv)/\W.cell? ⟨f+1,0,none⟩=some (.string tp)/\W.cell? ⟨f+1,1,none⟩=some (.int .i64 fn)/\W.cell? ⟨f+1,2,none⟩=some (.slice D al N)/\W.cell? ⟨f+1,3,none⟩=some (.int .i64 aE)):=hD λW B=>by
    have bc:z≠f+1+1:=λe=>ae.ne_ ab.O j.O.r.J (by decide) e.symm
    have d0:y≠f+1+1:=λe=>yQ _ (by have:=cn.O;rw[e] at this;exact this)
    have bo:=B.J a1.O d0;have G:=B.J ai (Yl (Yf _));exact⟨B,(B.I (p:=⟨z,8,none⟩) j.O.r.J.lt bc).trans am,(B.I (p:=⟨z,11,none⟩) j.O.r.J.lt bc).trans a7,bo.I 0,bo.I 1,G.I 0,G.I 1,G.I 2,G.I 3⟩
   have g0:=E.O W9 oR;clear V an ai bb b0 am a7 cb cd ce cf c0 c1
   go_region_held3 (λW=>aa (λb=>b=f+1+1) W9 W/\W.cell? ⟨z,8,none⟩=some (.int .i64 a3)/\W.cell? ⟨z,11,none⟩=some (.slice H X K)/\W.cell? ⟨y,0,none⟩=some (.int .i64 0)/\W.cell? ⟨y,1,none⟩=some (.int .i64 bv)/\W.cell? ⟨f+1,0,none⟩=some (.string tp)/\W.cell? ⟨f+1,1,none⟩=some (.int .i64 fn)/\W.cell? ⟨f+1,2,none⟩=some (.slice D al N)/\W.cell? ⟨f+1,3,none⟩=some (.int .i64 aE))
    (with_reducible first|exact E.O _ bm.O|exact E.O _ (aa.setCell (aa.setCell bm.O (Or.inl rfl) _) (Or.inl rfl) _)|exact E.O _ (aa.alloc oR _)|exact E.O _ (aa.alloc (aa.drew oR) _)|exact E.O _ (aa.drew oR)|exact E.O _ oR|fail)
    (first
     |(refine gE rfl _ _ rfl rfl _ rfl ⟨t,⟨0,bv⟩,a4.length⟩ (D,N) _ ck.O (by first|exact bN|exact bN.drew) (cp.O.kp (S:=λ_=>False) (by repeat (first|with_reducible exact oR|with_reducible refine aa.drew ?_|with_reducible refine aa.alloc ?_ _)) nG) (a4.flatMap (aF p)) (cm.O.U (by repeat (first|with_reducible exact oR|with_reducible refine aa.drew ?_|with_reducible refine aa.alloc ?_ _))) cv.O (λd6 w' bk a2 bz=>?_)
       obtain⟨kb,gm,aw,kn⟩:=lP a2 bz (W9:=W9) (by repeat (first|with_reducible exact oR|with_reducible refine aa.drew ?_|with_reducible refine aa.alloc ?_ _)) (by first|exact bN|exact bN.drew) (lR) cw.O ab.O a1.O;have d3:=hD aw;have bm:Hd (aa (λb=>b=f+1+1) W9 w'):=hD (aw.mono λ_ e=>e.elim);clear aw;have d4:=kb.I 0;have d5:=kb.I 1;have gn:=kb.fz 0;have go:=kb.fz 1;simp at d4 d5)
     |fail)
   go_wp2_with fail;have d2:=(kb.s_ 0 (.int .i64 0)).s_ 1 (.int .i64 bv);have Q:=(af w' (f+1+1) 0 (.int .i64 0)).trans (af _ (f+1+1) 1 (.int .i64 bv));refine bodyPost_ret (aO Tryz.results13 rfl d2 Tryz.underlying35 rfl (by kernel_rfl)) rfl ?_;refine⟨d6,by rw[ad.O.1];rfl,?_,?_,λb x=>lT b3.O.size (lT j.O.st.size (kn b x))⟩
   ·rw[me ad.O.2,ad.O.1]
    exact bk.by_type Q kb (by decide) (by decide)
   ·exact(b3.O.trans (j.O.st.trans d3.O)).trans' Q λb e=>.inr (by rw[e,e3.O];exact zJ (yX _))
theorem Ao(g:gH p):∀(b:Nat) (t:aj),t.fuel<b->∀(d:Option Addr) (f:Nat) (a:Nat->Prop) (w:World),fP w F A p->aJ w a d t.args->cC p t->Calls Tryz.prog 13 #[aM p A c,.agg (bX t d f)] w λi w'=>xQ w w' a p t i
 |0,t,e=>absurd e (zZ _)
 |b+1,t,e=>λd f a w j k n=>En b g (Ao g b) t (Nat.le_of_lt_succ e) d f a w j k n
end
end
end Go.Proofs.YtmdocplknceilaaGreat
