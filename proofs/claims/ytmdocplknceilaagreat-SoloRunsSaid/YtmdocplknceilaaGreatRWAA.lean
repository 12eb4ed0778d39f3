import Derived.Test.YtmdocplknceilaaGreatRAL
set_option linter.all false
namespace Go.Proofs.YtmdocplknceilaaGreat
theorem _root_.Go.RowKit.Below.I{B:Nat}{w b:World}(c:Go.RowKit.Below B w b){p:Addr}(e:p.block<B):b.cell? p=w.cell? p:=Go.World.cell?_of_block (w:=w) (c.block p.block e)
section
def ld(C:List Int)(k:Int):Int:=if 0<=k/\k<C.length then C.getD k.toNat 0 else 0
def st(C:List Int)(k x:Int):List Int:=if 0<=k/\k<C.length then C.set k.toNat x else C
theorem eQ(C:List Int)(k x:Int):(st C k x).length=C.length:=by unfold st;split<;>simp
theorem Eb(C:List Int)(k x j:Int):ld (st C k x) j=if j=k/\0<=k/\k<C.length then x else ld C j:=by
 by_cases b:0<=k/\k<C.length
 ·have f:st C k x=C.set k.toNat x:=yf b
  by_cases g:j=k
  ·subst g
   have l:j.toNat<C.length:=by omega
   rw[yf ⟨rfl,b⟩,f,ld,yI,yf b];simp[yc,l]
  ·rw[yb (λe=>g e.1),f]
   unfold ld;rw[yI]
   by_cases c:0<=j/\j<C.length
   ·rw[yf c,yf c]
    have:k.toNat≠j.toNat:=by omega
    simp[yc,this]
   ·rw[yb c,yb c]
 ·rw[yb (λe=>b e.2),st,yb b]
theorem dT{C:List Int}{k x j:Int}(c:j≠k):ld (st C k x) j=ld C j:=by rw[Eb,yb (λb=>c b.1)]
theorem gC{C:List Int}{k x:Int}(b:0<=k)(c:k<C.length):ld (st C k x) k=x:=by rw[Eb,yf ⟨rfl,b,c⟩]
theorem md{C l:List Int}{k:Int}(e:k<C.length):ld (C++l) k=ld C k:=by
 unfold ld
 by_cases b:0<=k
 ·have f:k.toNat<C.length:=by omega
  rw[yf ⟨b,by rw[yk];omega⟩,yf ⟨b,e⟩];simp[yc,yi f]
 ·rw[yb (λc=>b c.1),yb (λc=>b c.1)]
theorem Fs{C:List Int}{x:Int}{l:List Int}:ld (C++x :: l) C.length=x:=by
 unfold ld;rw[yf ⟨by omega,by simp;omega⟩];simp[yc]
structure aC where
 kn:Nat
 v:Int
 at_:Nat
 b:Int
 t:Int
 w:Int
 n:Int
 nw:Int
 i:Int
 read:Int
 td:Nat
 got:Int
def cQ(kind:Nat)(v:Int):aC:=⟨kind,v,0,0,0,0,0,0,0,0,0,0⟩
structure ke where
 what:Nat
 val:Int
 a:aC
 C:List Int
def goes(a:aC)(at':Nat)(C:List Int):ke:=⟨0,0,{a with at_:=at'},C⟩
def over(a:aC)(what:Nat)(v:Int)(C:List Int):ke:=⟨what,v,{a with td:=what,got:=v},C⟩
def ak(w n i:Int):Int:=w+1+i % n
def fresh(n:Int):List Int:=(2*n) :: List.replicate (2*n).toNat 0
def fH(d:Int)(C:List Int)(a:aC):ke:=
 match a.at_ with
 |0=>goes {a with b:=ld C (d+1)} 1 C
 |1=>goes {a with t:=ld C d} 2 C
 |2=>goes {a with w:=ld C (d+2)} 3 C
 |3=>goes {a with n:=ld C a.w} (if a.b-a.t≥ld C a.w then 10 else 20) C
 |10=>goes {a with nw:=C.length,i:=a.t} (if a.t=a.b then 13 else 11) (C++fresh a.n)
 |11=>goes {a with read:=ld C (ak a.w a.n a.i)} 12 C
 |12=>goes {a with i:=a.i+1} (if a.i+1=a.b then 13 else 11) (st C (ak a.nw (2*a.n) a.i) a.read)
 |13=>goes {a with w:=a.nw,n:=2*a.n} 20 (st C (d+2) a.nw)
 |20=>goes a 21 (st C (ak a.w a.n a.b) a.v)
 |_=>over a 1 0 (st C (d+1) (a.b+1))
def cL(d:Int)(C:List Int)(a:aC):ke:=
 match a.at_ with
 |0=>goes {a with b:=ld C (d+1)-1} 1 C
 |1=>goes {a with w:=ld C (d+2)} 2 C
 |2=>goes a 3 (st C (d+1) a.b)
 |3=>goes {a with t:=ld C d} (if ld C d > a.b then 4 else 5) C
 |4=>over a 3 0 (st C (d+1) (a.b+1))
 |5=>goes {a with n:=ld C a.w} 6 C
 |6=>if a.t<a.b then over {a with read:=ld C (ak a.w a.n a.b)} 2 (ld C (ak a.w a.n a.b)) C else goes {a with read:=ld C (ak a.w a.n a.b)} 7 C
 |7=>if ld C d=a.t then goes {a with i:=1} 8 (st C d (a.t+1)) else goes {a with i:=0} 8 C
 |_=>if a.i=1 then over a 2 a.read (st C (d+1) (a.b+1)) else over a 3 0 (st C (d+1) (a.b+1))
def bA(d:Int)(C:List Int)(a:aC):ke:=
 match a.at_ with
 |0=>goes {a with t:=ld C d} 1 C
 |1=>if a.t≥ld C (d+1) then over {a with b:=ld C (d+1)} 3 0 C else goes {a with b:=ld C (d+1)} 2 C
 |2=>goes {a with w:=ld C (d+2)} 3 C
 |3=>goes {a with n:=ld C a.w} 4 C
 |4=>goes {a with read:=ld C (ak a.w a.n a.t)} 5 C
 |_=>if ld C d=a.t then over a 2 a.read (st C d (a.t+1)) else over a 4 0 C
def pstep(d:Int)(C:List Int)(a:aC):ke:=
 match a.kn with
 |0=>fH d C a
 |1=>cL d C a
 |_=>bA d C a
structure dI(d:Int)(C:List Int)(ws:List (Int×Int))(cur:Int×Int)(q:List Int)(P:Int):Prop where
 d0:0<=d
 dl:d+2<C.length
 lay:∀p∈ws,1<=p.2/\d+3<=p.1/\p.1+p.2<C.length/\ld C p.1=p.2
 apart:∀p∈ws,∀r∈ws,p=r\/p.1+p.2<r.1\/r.1+r.2<p.1
 curm:cur∈ws
 wh:ld C (d+2)=cur.1
 top0:0<=ld C d
 topP:ld C d+q.length<=P
 room:(q.length:Int)<=cur.2
 cont:∀j:Nat,j<q.length->ld C (ak cur.1 cur.2 (ld C d+j))=q.getD j 0
theorem fD{w n i:Int}(b:1<=n):w+1<=ak w n i/\ak w n i<=w+n:=by
 unfold ak;have:=Int.emod_nonneg i (show n≠0 by omega);have:=Int.emod_lt_of_pos i (show 0<n by omega);omega
theorem uv{w n i j:Int}(f:i<j)(g:j-i<n):ak w n i≠ak w n j:=by
 unfold ak;intro e;have b:i % n=j % n:=by omega
 have:=Int.emod_emod_of_dvd (j-i) (Int.dvd_refl n);have c:(j-i) % n=0:=by rw[Int.sub_emod,b];simp
 rw[Int.emod_eq_of_lt (by omega) (by omega)] at c;omega
section
variable {d:Int}{C:List Int}{ws:List (Int×Int)}{cur:Int×Int}{q:List Int}{P:Int}
theorem dI.place_far(c:dI d C ws cur q P){p r:Int×Int}(e:p∈ws)(f:r∈ws)(g:p≠r)(i j:Int):ak p.1 p.2 i≠ak r.1 r.2 j:=by
 have k:=fD (w:=p.1) (i:=i) (c.lay p e).1;have l:=fD (w:=r.1) (i:=j) (c.lay r f).1
 rcases c.apart p e r f with b|b|b
 ·exact absurd b g
 ·omega
 ·omega
theorem dI.place_size(b:dI d C ws cur q P){p r:Int×Int}(c:p∈ws)(e:r∈ws)(i:Int):ak p.1 p.2 i≠r.1:=by
 have g:=fD (w:=p.1) (i:=i) (b.lay p c).1;have j:=(b.lay r e).1
 rcases b.apart p c r e with rfl|f|f
 ·omega
 ·omega
 ·omega
theorem dI.place_in(b:dI d C ws cur q P){p:Int×Int}(c:p∈ws)(i:Int):d+4<=ak p.1 p.2 i/\ak p.1 p.2 i<C.length:=by
 have e:=fD (w:=p.1) (i:=i) (b.lay p c).1;have f:=b.lay p c;omega
theorem dI.size(b:dI d C ws cur q P){p:Int×Int}(c:p∈ws):ld C p.1=p.2:=(b.lay p c).2.2.2
end
def xP(C q:List Int)(top:Int)(a:aC):Prop:=∀x,a.t<=x->x<a.i->top<=x->ld C (ak a.nw (2*a.n) x)=q.getD (x-top).toNat 0
def Grow(C:List Int)(ws:List (Int×Int))(q:List Int)(cur:Int×Int)(top:Int)(a:aC):Prop:=(a.nw,2*a.n)∈ws/\cur.1+cur.2<a.nw/\a.t<=a.i/\xP C q top a
def PT(cur:Int×Int)(top:Int)(a:aC):Prop:=0<=a.t/\a.t<=top/\a.b-a.t<=cur.2
inductive pj (top bot:Int) (cur:Int×Int) (C:List Int) (ws:List (Int×Int)) (q:List Int) (a:aC):Prop
 |s0 (e:a.at_=0)
 |s1 (e:a.at_=1) (hb:a.b=bot)
 |s2 (e:a.at_=2) (hb:a.b=bot) (ht:PT cur top a)
 |s3 (e:a.at_=3) (hb:a.b=bot) (ht:PT cur top a) (hw:a.w=cur.1)
 |s10 (e:a.at_=10) (hb:a.b=bot) (ht:PT cur top a) (hw:a.w=cur.1) (hn:a.n=cur.2) (he:a.b-a.t=a.n)
 |s11 (e:a.at_=11) (hb:a.b=bot) (ht:PT cur top a) (hw:a.w=cur.1) (hn:a.n=cur.2) (g:Grow C ws q cur top a) (hi:a.i<a.b)
 |s12 (e:a.at_=12) (hb:a.b=bot) (ht:PT cur top a) (hw:a.w=cur.1) (hn:a.n=cur.2) (g:Grow C ws q cur top a) (hi:a.i<a.b) (hr:top<=a.i->a.read=q.getD (a.i-top).toNat 0)
 |s13 (e:a.at_=13) (hb:a.b=bot) (ht:PT cur top a) (hw:a.w=cur.1) (hn:a.n=cur.2) (g:Grow C ws q cur top a) (hi:a.i=a.b)
 |s20 (e:a.at_=20) (hb:a.b=bot) (ht:PT cur top a) (hw:a.w=cur.1) (hn:a.n=cur.2) (hl:a.b-a.t<a.n)
 |s21 (e:a.at_=21) (hb:a.b=bot) (ht:PT cur top a) (hw:a.w=cur.1) (hn:a.n=cur.2) (hl:a.b-a.t<a.n) (hv:ld C (ak a.w a.n a.b)=a.v)
inductive tw (top bot:Int) (cur:Int×Int) (q:List Int) (a:aC):Prop
 |s0 (e:a.at_=0) (hB:bot=top+q.length)
 |s1 (e:a.at_=1) (hB:bot=top+q.length) (hb:a.b=bot-1)
 |s2 (e:a.at_=2) (hB:bot=top+q.length) (hb:a.b=bot-1) (hw:a.w=cur.1)
 |s3 (e:a.at_=3) (hb:bot=a.b) (hq:top+q.length=a.b+1) (hw:a.w=cur.1)
 |s4 (e:a.at_=4) (hb:bot=a.b) (hq:q= []) (ht:top=a.b+1)
 |s5 (e:a.at_=5) (hb:bot=a.b) (hq:top+q.length=a.b+1) (hw:a.w=cur.1) (ht:0<=a.t/\a.t<=a.b/\a.t<=top) (hf:a.t<a.b->top<=a.b)
 |s6 (e:a.at_=6) (hb:bot=a.b) (hq:top+q.length=a.b+1) (hw:a.w=cur.1) (ht:0<=a.t/\a.t<=a.b/\a.t<=top) (hf:a.t<a.b->top<=a.b) (hn:a.n=cur.2)
 |s7 (e:a.at_=7) (hb:bot=a.b) (hq:top+q.length=a.b+1) (ht:a.t=a.b) (ht':a.t<=top) (hr:top=a.b->q= [a.read])
 |s8 (e:a.at_=8) (hb:bot=a.b) (hq:q= []) (ht:top=a.b+1) (hi:a.i=0\/a.i=1)
def cU:Option aC->Nat
 |none=>1
 |some a=>if a.kn=1/\(a.at_=5\/a.at_=6)/\a.t<a.b then 2 else 1
theorem EL(o:Option aC):1<=cU o/\cU o<=2:=by
 unfold cU;split
 ·omega
 ·split<;>omega
inductive dW (m:Nat) (top:Int) (cur:Int×Int) (C:List Int) (ws:List (Int×Int)) (q:List Int) (a:aC):Prop
 |s0 (e:a.at_=0)
 |s1 (e:a.at_=1) (ht:0<=a.t/\a.t<=top)
 |s2 (e:a.at_=2) (ht:0<=a.t/\a.t<=top) (hq:a.t=top->m<=q.length)
 |s3 (e:a.at_=3) (ht:0<=a.t/\a.t<=top) (hq:a.t=top->m<=q.length) (hw:(a.w,ld C a.w)∈ws/\a.w<=cur.1) (hs:a.t=top->ld C (ak a.w (ld C a.w) a.t)=q.getD 0 0)
 |s4 (e:a.at_=4) (ht:0<=a.t/\a.t<=top) (hq:a.t=top->m<=q.length) (hw:(a.w,ld C a.w)∈ws/\a.w<=cur.1) (hs:a.t=top->ld C (ak a.w (ld C a.w) a.t)=q.getD 0 0) (hn:a.n=ld C a.w)
 |s5 (e:a.at_=5) (ht:0<=a.t/\a.t<=top) (hq:a.t=top->m<=q.length) (hr:a.t=top->a.read=q.getD 0 0)
def lN(top bot:Int)(cur:Int×Int)(C:List Int)(ws:List (Int×Int))(q:List Int)(P:Int):Option aC->Prop
 |none=>bot=top+q.length
 |some a=>a.td=0/\(a.kn=0/\bot=top+q.length/\top+q.length+1<=P/\pj top bot cur C ws q a\/a.kn=1/\tw top bot cur q a)
section
variable {d:Int}{C C':List Int}{ws:List (Int×Int)}{cur:Int×Int}{q:List Int}{P:Int}
theorem dI.low(b:dI d C ws cur q P)(f:C'.length=C.length)(c:∀k,k≠d+1->ld C' k=ld C k):dI d C' ws cur q P:=by
 have e:=c d (by omega);refine⟨b.d0,by rw[f];exact b.dl,λp l=>?_,b.apart,b.curm,by rw[c _ (by omega)];exact b.wh,by rw[e];exact b.top0,by rw[e];exact b.topP,b.room,λj g=>?_⟩
 ·have:=b.lay p l
  rw[f,c _ (by omega)];exact this
 ·have:=b.place_in b.curm (ld C d+j)
  rw[e,c _ (by omega)];exact b.cont j g
theorem dW.kp{k:Nat}{top:Int}{a:aC}{cur':Int×Int}{ws':List (Int×Int)}(g:dW k top cur C ws q a)(n:∀p∈ws,p∈ws')(v:cur.1<=cur'.1)
 (u:∀p∈ws,ld C p.1=p.2->ld C' p.1=p.2)
 (s:∀p∈ws,p.1<=cur.1->a.t=top->k<=q.length->ld C p.1=p.2->ld C' (ak p.1 p.2 a.t)=ld C (ak p.1 p.2 a.t)):dW k top cur' C' ws' q a:=by
 have key:∀(b:a.t=top->k<=q.length) (f:(a.w,ld C a.w)∈ws/\a.w<=cur.1),(ld C' a.w=ld C a.w)/\(a.t=top->ld C' (ak a.w (ld C a.w) a.t)=ld C (ak a.w (ld C a.w) a.t)):=by
  intro b f;exact⟨u _ f.1 rfl,λc=>s _ f.1 f.2 c (b c) rfl⟩
 cases g with
 |s0 e=>exact .s0 e
 |s1 e c=>exact .s1 e c
 |s2 e c b=>exact .s2 e c b
 |s3 e c b f l=>
  obtain⟨j,m⟩:=key b f;refine .s3 e c b ⟨by rw[j];exact n _ f.1,by omega⟩ λg=>?_
  rw[j,m g];exact l g
 |s4 e c b f l o=>
  obtain⟨j,m⟩:=key b f;refine .s4 e c b ⟨by rw[j];exact n _ f.1,by omega⟩ (λg=>?_) (by rw[j];exact o);rw[j,m g];exact l g
 |s5 e c b r=>exact .s5 e c b r
theorem dW.less{l m:Nat}{top:Int}{a:aC}{q':List Int}(b:dW l top cur C ws q a)(g:l<=q.length->m<=q'.length/\q'.getD 0 0=q.getD 0 0):dW m top cur C ws q' a:=by
 cases b with
 |s0 c=>exact .s0 c
 |s1 c f=>exact .s1 c f
 |s2 c f e=>exact .s2 c f λb=>(g (e b)).1
 |s3 c f e j k=>exact .s3 c f (λb=>(g (e b)).1) j λb=>by rw[k b,(g (e b)).2]
 |s4 c f e j k n=>exact .s4 c f (λb=>(g (e b)).1) j (λb=>by rw[k b,(g (e b)).2]) n
 |s5 c f e o=>exact .s5 c f (λb=>(g (e b)).1) λb=>by rw[o b,(g (e b)).2]
theorem dW.late{m n:Nat}{top:Int}{a:aC}{q':List Int}(e:dW m top cur C ws q a)(j:∀p∈ws,ld C p.1=p.2->ld C' p.1=p.2):dW n (top+1) cur C' ws q' a:=by
 cases e with
 |s0 b=>exact .s0 b
 |s1 b c=>exact .s1 b ⟨c.1,by omega⟩
 |s2 b c g=>exact .s2 b ⟨c.1,by omega⟩ λe=>by omega
 |s3 b c g f l=>
  have:=j _ f.1 rfl;exact .s3 b ⟨c.1,by omega⟩ (λe=>by omega) (by simp only at this;rw[this];exact f) λe=>by omega
 |s4 b c g f l k=>
  have:=j _ f.1 rfl;simp only at this;exact .s4 b ⟨c.1,by omega⟩ (λe=>by omega) (by rw[this];exact f) (λe=>by omega) (by rw[this];exact k)
 |s5 b c g o=>exact .s5 b ⟨c.1,by omega⟩ (λe=>by omega) λe=>by omega
theorem dI.pop(b:dI d C ws cur q P){q':List Int}{v:Int}(o:q=v :: q'):dI d (st C d (ld C d+1)) ws cur q' P:=by
 have e:ld (st C d (ld C d+1)) d=ld C d+1:=gC b.d0 (by have:=b.dl;omega);have c:∀k,k≠d->ld (st C d (ld C d+1)) k=ld C k:=λk c=>dT c
 have g:=b.topP;have l:=b.room;have r:=b.top0;subst o;simp only[zo] at g l;refine⟨b.d0,by rw[eQ];exact b.dl,λp n=>?_,b.apart,b.curm,by rw[c _ (by omega)];exact b.wh,by rw[e];omega,by rw[e];omega,by omega,λj m=>?_⟩
 ·have:=b.lay p n
  rw[eQ,c _ (by omega)];exact this
 ·have:=b.place_in b.curm (ld C d+1+j)
  have f:=b.cont (j+1) (by simpa using m);rw[e,c _ (by omega)];rw[show ld C d+((j+1:Nat):Int)=ld C d+1+j by omega] at f;rw[f];simp
theorem su{v:Int}{q':List Int}{x:Int}(b:1<=x):(v :: q').getD x.toNat 0=q'.getD (x-1).toNat 0:=by
 obtain⟨n,rfl⟩ :∃n:Nat,x=n+1:=⟨(x-1).toNat,by omega⟩
 rw[show((n:Int)+1).toNat=n+1 by omega,show((n:Int)+1-1).toNat=n by omega];simp
theorem Grow.pop{top:Int}{a:aC}{v:Int}{q':List Int}(g:Grow C ws (v :: q') cur top a)(e:∀x,ld C' (ak a.nw (2*a.n) x)=ld C (ak a.nw (2*a.n) x)):Grow C' ws q' cur (top+1) a:=
 ⟨g.1,g.2.1,g.2.2.1,λx b c f=>by rw[e,g.2.2.2 x b c (by omega),su (by omega)];congr 1;omega⟩
theorem lN.pop(u:dI d C ws cur q P){o:Option aC}{v:Int}{q':List Int}(n:lN (ld C d) (ld C (d+1)) cur C ws q P o)(l:q=v :: q')(j:cU o<=q.length):
 lN (ld (st C d (ld C d+1)) d) (ld (st C d (ld C d+1)) (d+1)) cur (st C d (ld C d+1)) ws q' P o:=by
 have H:ld (st C d (ld C d+1)) d=ld C d+1:=gC u.d0 (by have:=u.dl;omega);have w:∀k,k≠d->ld (st C d (ld C d+1)) k=ld C k:=λk w=>dT w
 rw[H,w (d+1) (by omega)];subst l;have E:∀p∈ws,∀x,ld (st C d (ld C d+1)) (ak p.1 p.2 x)=ld C (ak p.1 p.2 x):=λp t x=>w _ (by have:=u.place_in t x;omega)
 generalize st C d (ld C d+1)=G at*;have m:∀a:aC,PT cur (ld C d) a->PT cur (ld C d+1) a:=λa e=>⟨e.1,by have:=e.2.1;omega,e.2.2⟩
 have z:∀a:aC,Grow C ws (v :: q') cur (ld C d) a->Grow G ws q' cur (ld C d+1) a:=λa g=>g.pop λx=>E _ g.1 x
 have V:((v :: q').length:Int)=q'.length+1:=by simp
 cases o with
 |none=>
  have S:ld C (d+1)=ld C d+(v :: q').length:=n;show ld C (d+1)=ld C d+1+q'.length;omega
 |some a=>
  obtain⟨D,n⟩:=n
  rcases n with⟨s,y,T,t⟩|⟨s,t⟩
  ·refine⟨D,.inl ⟨s,by omega,by omega,?_⟩⟩
   cases t with
   |s0 b=>exact .s0 b
   |s1 b c=>exact .s1 b c
   |s2 b c e=>exact .s2 b c (m a e)
   |s3 b c e f=>exact .s3 b c (m a e) f
   |s10 b c e f j K=>exact .s10 b c (m a e) f j K
   |s11 b c e f j g r=>exact .s11 b c (m a e) f j (z a g) r
   |s12 b c e f j g r F=>exact .s12 b c (m a e) f j (z a g) r λn=>by rw[F (by omega),su (by omega)];congr 1;omega
   |s13 b c e f j g r=>exact .s13 b c (m a e) f j (z a g) r
   |s20 b c e f j A=>exact .s20 b c (m a e) f j A
   |s21 b c e f j A hv=>exact .s21 b c (m a e) f j A (by rw[f,j,E _ u.curm,<-f,<-j];exact hv)
  ·refine⟨D,.inr ⟨s,?_⟩⟩
   cases t with
   |s0 b y=>exact .s0 b (by omega)
   |s1 b y c=>exact .s1 b (by omega) c
   |s2 b y c f=>exact .s2 b (by omega) c f
   |s3 b c l f=>exact .s3 b c (by omega) f
   |s4 b c l e=>cases l
   |s5 b c l f e Q=>
    refine .s5 b c (by omega) f ⟨e.1,e.2.1,by omega⟩ λB=>?_
    have:cU (some a)=2:=by simp[cU,s,b,B]
    rw[this] at j;omega
   |s6 b c l f e Q R=>
    refine .s6 b c (by omega) f ⟨e.1,e.2.1,by omega⟩ (λB=>?_) R;have:cU (some a)=2:=by simp[cU,s,b,B]
    rw[this] at j;omega
   |s7 b c l e W F=>exact .s7 b c (by omega) e (by omega) λn=>by omega
   |s8 b c l e r=>cases l
theorem xL(j:dI d C ws cur q P){o:Option aC}(p:lN (ld C d) (ld C (d+1)) cur C ws q P o){a:aC}(c:dW (cU o) (ld C d) cur C ws q a)(m:a.td=0):
 ((bA d C a).what=0/\(bA d C a).val=0/\(bA d C a).C=C/\(bA d C a).a.td=0/\dW (cU o) (ld C d) cur C ws q (bA d C a).a)\/
 (((bA d C a).what=3\/(bA d C a).what=4)/\(bA d C a).val=0/\(bA d C a).C=C/\(bA d C a).a.td=(bA d C a).what)\/
 ((bA d C a).what=2/\(bA d C a).a.td=2/\(bA d C a).C=st C d (ld C d+1)/\∃q',q=(bA d C a).val :: q'/\cU o<=q.length):=by
 have F:ld C (d+1)<=ld C d+q.length/\(cU o=2->ld C (d+1)<ld C d+q.length):=by
  cases o with
  |none=>exact⟨Int.le_of_eq p,λc=>by simp[cU] at c⟩
  |some b=>
   obtain⟨_,p⟩:=p
   rcases p with⟨x,r,_,_⟩|⟨x,D⟩
   ·exact⟨by omega,λc=>by simp[cU,x] at c⟩
   ·cases D with
    |s0 e r=>exact⟨by omega,λc=>by simp[cU,e] at c⟩
    |s1 e r k=>exact⟨by omega,λc=>by simp[cU,e] at c⟩
    |s2 e r k l=>exact⟨by omega,λc=>by simp[cU,e] at c⟩
    |s3 e k f l=>exact⟨by omega,λc=>by omega⟩
    |s4 e k f g=>exact⟨by subst f;simp;omega,λc=>by subst f;simp;omega⟩
    |s5 e k f l g B=>exact⟨by omega,λc=>by omega⟩
    |s6 e k f l g B y=>exact⟨by omega,λc=>by omega⟩
    |s7 e k f g K z=>exact⟨by omega,λc=>by omega⟩
    |s8 e k f g G=>exact⟨by subst f;simp;omega,λc=>by subst f;simp;omega⟩
 have H:=EL o;have E:=j.top0;unfold bA
 cases c with
 |s0 e=>rw[e];exact .inl ⟨rfl,rfl,rfl,m,.s1 rfl ⟨E,yE _⟩⟩
 |s1 e g=>
  rw[e]
  by_cases w:a.t≥ld C (d+1)
  ·simp only[yf w]
   exact .inr (.inl ⟨.inl rfl,rfl,rfl,rfl⟩)
  ·simp only[yb w]
   exact .inl ⟨rfl,rfl,rfl,m,.s2 rfl g λc=>by simp only[goes] at c;omega⟩
 |s2 e g f=>
  rw[e];refine .inl ⟨rfl,rfl,rfl,m,.s3 rfl g f ⟨?_,?_⟩ λc=>?_⟩
  ·simp only[goes];rw[j.wh,j.size j.curm];exact j.curm
  ·simp only[goes];rw[j.wh];exact yE _
  ·simp only[goes] at c ⊢
   have:=j.cont 0 (by have:=f c;omega);rw[j.wh,j.size j.curm,c]
   simpa using this
 |s3 e g f l s=>rw[e];exact .inl ⟨rfl,rfl,rfl,m,.s4 rfl g f l s rfl⟩
 |s4 e g f l s y=>rw[e];exact .inl ⟨rfl,rfl,rfl,m,.s5 rfl g f λc=>by simp only[goes] at c ⊢;rw[y];exact s c⟩
 |s5 e g f z=>
  rw[e]
  by_cases n:ld C d=a.t
  ·simp only[yf n]
   refine .inr (.inr ⟨rfl,rfl,by simp only[over];rw[n],?_⟩);have u:=f n.symm;have A:=z n.symm
   cases q with
   |nil=>simp at u;omega
   |cons v q'=>exact⟨q',by simp only[over];rw[A];rfl,u⟩
  ·simp only[yb n]
   exact .inr (.inl ⟨.inr rfl,rfl,rfl,rfl⟩)
def dN(cur:Int×Int):Option aC->Int
 |none=>cur.2
 |some a=>if a.kn=0/\11<=a.at_/\a.at_<=13 then 2*cur.2 else cur.2
def Sz(Z:Int)(C:List Int)(cur:Int×Int)(N:Int)(o:Option aC):Prop:=(C.length:Int)<=Z+3*dN cur o/\dN cur o<=N
theorem kh{cur:Int×Int}{a:aC}(c:¬(11<=a.at_/\a.at_<=13)):dN cur (some a)=cur.2:=by simp only[dN];rw[yb (λb=>c b.2)]
theorem qQ{cur:Int×Int}{a:aC}(c:a.kn=0)(b:11<=a.at_/\a.at_<=13):dN cur (some a)=2*cur.2:=by simp only[dN];rw[yf ⟨c,b⟩]
def ew(P:Int)(a:aC):Int:=
 match a.kn with
 |0=>match a.at_ with
  |0=>2*P+12
  |1=>2*P+11
  |2=>2*P+10
  |3=>2*P+9
  |10=>2*P+8
  |11=>2*(a.b-a.i)+4
  |12=>2*(a.b-a.i)+3
  |13=>3
  |20=>2
  |_=>1
 |1=>9-(a.at_:Int)
 |_=>6-(a.at_:Int)
def iU(d:Int)(ws:List (Int×Int))(k:Int):Prop:=(d<=k/\k<=d+2)\/∃p∈ws,p.1<=k/\k<=p.1+p.2
structure fB(d:Int)(C:List Int)(ws:List (Int×Int))(C':List Int)(ws':List (Int×Int)):Prop where
 own:∀k,iU d ws' k->iU d ws k\/(C.length:Int)<=k
 kp:∀k,k<(C.length:Int)->¬iU d ws k->ld C' k=ld C k
 len:C.length<=C'.length
theorem eN{d:Int}{C:List Int}{ws:List (Int×Int)}:fB d C ws C ws:=⟨λ_ b=>.inl b,λ_ _ _=>rfl,lR⟩
theorem jw{d:Int}{C:List Int}{ws:List (Int×Int)}{c x:Int}(b:iU d ws c):fB d C ws (st C c x) ws:=
 ⟨λ_ b=>.inl b,λk _ f=>dT (λe=>f (by rw[e];exact b)),by rw[eQ];exact lR⟩
theorem nf{d:Int}{ws:List (Int×Int)}{w n i:Int}(c:1<=n)(b:(w,n)∈ws):iU d ws (ak w n i):=by
 have:=fD (w:=w) (i:=i) c;exact .inr ⟨(w,n),b,by simp only;omega,by simp only;omega⟩
theorem CG{d:Int}{C l:List Int}{ws:List (Int×Int)}{n:Int}:fB d C ws (C++l) (((C.length:Int),n) :: ws):=by
 refine⟨λk b=>?_,λk g _=>md g,by simp⟩
 rcases b with b|⟨p,c,e,f⟩
 ·exact .inl (.inl b)
 ·rcases yG.1 c with rfl|c
  ·exact .inr e
  ·exact .inl (.inr ⟨p,c,e,f⟩)
theorem Dq(d:Int)(C:List Int)(ws:List (Int×Int))(a:aC):fB d C ws (cL d C a).C ws:=by
 have c:iU d ws d:=.inl ⟨by omega,by omega⟩;have b:iU d ws (d+1):=.inl ⟨by omega,by omega⟩;unfold cL;split
 ·exact eN
 ·exact eN
 ·exact jw b
 ·exact eN
 ·exact jw b
 ·exact eN
 ·split<;>exact eN
 ·split
  ·exact jw c
  ·exact eN
 ·split<;>exact jw b
theorem xF(d:Int)(C:List Int)(ws:List (Int×Int))(a:aC):fB d C ws (bA d C a).C ws:=by
 have b:iU d ws d:=.inl ⟨by omega,by omega⟩;unfold bA;split
 ·exact eN
 ·split<;>exact eN
 ·exact eN
 ·exact eN
 ·exact eN
 ·split
  ·exact jw b
  ·exact eN
structure xV(Z d:Int)(C:List Int)(ws:List (Int×Int))(cur:Int×Int)(q:List Int)(P N:Int)(a:aC)(r:ke):Prop where
 same:r.a.kn=0/\r.a.v=a.v
 ex:∃ws' cur' q',dI d r.C ws' cur' q' P/\lN (ld r.C d) (ld r.C (d+1)) cur' r.C ws' q' P (if r.what=0 then some r.a else none)/\
  (r.what=0/\r.val=0/\r.a.td=0/\q'=q\/r.what=1/\r.val=0/\r.a.td=1/\q'=q++ [a.v])/\
  (∀x,dW 1 (ld C d) cur C ws q x->dW 1 (ld r.C d) cur' r.C ws' q' x)/\Sz Z r.C cur' N (if r.what=0 then some r.a else none)/\(r.what=0->ew P r.a+1<=ew P a)/\fB d C ws r.C ws'
theorem BO{Z:Int}(c:dI d C ws cur q P){a:aC}(m:a.kn=0)(K:a.td=0)(a6:ld C (d+1)=ld C d+q.length)(a7:ld C d+q.length+1<=P)(e:pj (ld C d) (ld C (d+1)) cur C ws q a){N:Int}(bo:2*P<=N)(S:Sz Z C cur N (some a)):
 xV Z d C ws cur q P N a (fH d C a):=by
 have ar:=c.room;have a8:=c.top0
 have a4:∀r:ke,r.what=0->r.val=0->r.C=C->r.a.kn=0->r.a.v=a.v->r.a.td=0->pj (ld C d) (ld C (d+1)) cur C ws q r.a->dN cur (some r.a)=dN cur (some a)->ew P r.a+1<=ew P a->xV Z d C ws cur q P N a r:=by
  intro r ai b5 a5 aw b6 az bc b8 bf;refine⟨⟨aw,b6⟩,ws,cur,q,by rw[a5];exact c,?_,.inl ⟨ai,b5,az,rfl⟩,λx A=>by rw[a5];exact A,by rw[yf ai,a5,Sz,b8];exact S,λ_=>bf,by rw[a5];exact eN⟩;rw[yf ai,a5];exact⟨az,.inl ⟨aw,a6,a7,bc⟩⟩
 unfold fH
 cases e with
 |s0 f=>rw[f];exact a4 _ rfl rfl rfl m rfl K (.s1 rfl rfl) (by simp[dN,goes,f]) (by simp[ew,goes,m,f];omega)
 |s1 f D=>rw[f];exact a4 _ rfl rfl rfl m rfl K (.s2 rfl D ⟨a8,yE _,by simp only[goes];omega⟩) (by simp[dN,goes,f]) (by simp[ew,goes,m,f];omega)
 |s2 f D u=>rw[f];exact a4 _ rfl rfl rfl m rfl K (.s3 rfl D u c.wh) (by simp[dN,goes,f]) (by simp[ew,goes,m,f];omega)
 |s3 f D u F=>
  rw[f];have E:ld C a.w=cur.2:=by rw[F];exact c.size c.curm
  have a9:=u.2.2
  by_cases b1:a.b-a.t≥ld C a.w
  ·simp only[yf b1]
   exact a4 _ rfl rfl rfl m rfl K (.s10 rfl D u F E (by simp only[goes];omega)) (by simp[dN,goes,f]) (by simp[ew,goes,m,f];omega)
  ·simp only[yb b1]
   exact a4 _ rfl rfl rfl m rfl K (.s20 rfl D u F E (by simp only[goes];omega)) (by simp[dN,goes,f]) (by simp[ew,goes,m,f];omega)
 |s10 f D u F E V=>
  rw[f];have ab:=c.lay cur c.curm;have a1:¬a.t=a.b:=by omega
  simp only[yb a1];have G:(fresh a.n).length=1+(2*a.n).toNat:=by simp[fresh];omega
  have R:∀k:Int,k<(C.length:Int)->ld (C++fresh a.n) k=ld C k:=λk l=>md l
  have al:=c.dl;have bb:ld (C++fresh a.n) C.length=2*a.n:=Fs;have X:∀p∈ws,∀x,ld (C++fresh a.n) (ak p.1 p.2 x)=ld C (ak p.1 p.2 x):=λp e x=>R _ (c.place_in e x).2
  have H:dI d (C++fresh a.n) (((C.length:Int),2*a.n) :: ws) cur q P:=by
   refine⟨c.d0,by rw[yk];omega,λp e=>?_,λp e r a3=>?_,yV _ c.curm,by rw[R _ al];exact c.wh,by rw[R _ (by omega)];exact a8,by rw[R _ (by omega)];exact c.topP,ar,λj W=>?_⟩
   ·rcases yG.1 e with rfl|e
    ·exact⟨by simp only;omega,by simp only;omega,by simp only;rw[yk,G];omega,bb⟩
    ·have:=c.lay p e
     rw[R _ (by omega),yk];refine⟨this.1,this.2.1,by omega,this.2.2.2⟩
   ·rcases yG.1 e with rfl|e<;>rcases yG.1 a3 with rfl|a3
    ·exact .inl rfl
    ·have:=c.lay r a3
     exact .inr (.inr this.2.2.1)
    ·have:=c.lay p e
     exact .inr (.inl this.2.2.1)
    ·exact c.apart p e r a3
   ·rw[R d (by omega),X _ c.curm]
    exact c.cont j W
  refine⟨⟨m,rfl⟩,_,cur,q,H,?_,.inl ⟨rfl,rfl,K,rfl⟩,λx A=>?_,⟨?_,?_⟩,λ_=>by have:=u.1;simp[ew,goes,m,f];omega,CG⟩
  ·simp only[goes,yR]
   rw[R d (by omega),R (d+1) (by omega)];refine⟨K,.inl ⟨m,a6,a7,.s11 rfl D u F E ⟨zh,ab.2.2.1,yE _,λx z B _=>?_⟩ ?_⟩⟩
   ·simp only at z B;omega
   ·simp only;omega
  ·simp only[goes]
   rw[R d (by omega)];exact A.kp (λp e=>yV _ e) (yE _) (λp e s=>by rw[R _ (by have:=c.lay p e;omega)];exact s) λp e _ _ _ _=>X p e _
  ·have z:=S.1
   rw[kh (by omega)] at z;simp only[goes,yR];simp only[dN];rw[yf ⟨m,by omega,by omega⟩,yk,G];omega
  ·simp only[goes,yR]
   simp only[dN];rw[yf ⟨m,by omega,by omega⟩];have:=u.1;omega
 |s11 f D u F E g am=>
  rw[f];refine a4 _ rfl rfl rfl m rfl K (.s12 rfl D u F E g am λs=>?_) (by simp[dN,goes,f]) (by simp[ew,goes,m,f];omega);simp only[goes] at s ⊢;have:=c.cont (a.i-ld C d).toNat (by omega);rw[F,E,<-this]
  congr 2
  omega
 |s12 f D u F E g am a3=>
  rw[f];simp only;have ab:=c.lay cur c.curm;have ba:=c.lay _ g.1;have a1:cur≠(a.nw,2*a.n):=λs=>by have:=g.2.1;rw[s] at this;simp only at this;omega
  have A:=c.place_in g.1 a.i;have l:∀k,k≠ak a.nw (2*a.n) a.i->ld (st C (ak a.nw (2*a.n) a.i) a.read) k=ld C k:=λk l=>dT l
  have V:ld (st C (ak a.nw (2*a.n) a.i) a.read) (ak a.nw (2*a.n) a.i)=a.read:=gC (by have:=c.d0;simp only at A;omega) (by simp only at A;omega);have T:∀p∈ws,ld (st C (ak a.nw (2*a.n) a.i) a.read) p.1=ld C p.1:=λp e=>l _ (λs=>c.place_size g.1 e a.i s.symm)
  have ad:∀p∈ws,p≠(a.nw,2*a.n)->∀x,ld (st C (ak a.nw (2*a.n) a.i) a.read) (ak p.1 p.2 x)=ld C (ak p.1 p.2 x):=λp e a1 x=>l _ (c.place_far e g.1 a1 x a.i)
  have o:=l d (by simp only at A;omega);have Y:=l (d+1) (by simp only at A;omega);have av:=l (d+2) (by simp only at A;omega);have G:=eQ C (ak a.nw (2*a.n) a.i) a.read;have b7:=u.2.2;have bq:=g.2.2.1;have a0:fB d C ws (st C (ak a.nw (2*a.n) a.i) a.read) ws:=jw (nf (show 1<=2*a.n from(c.lay _ g.1).1) g.1);generalize st C (ak a.nw (2*a.n) a.i) a.read=Q at*
  have H:dI d Q ws cur q P:=by
   refine⟨c.d0,by rw[G];exact c.dl,λp e=>?_,c.apart,c.curm,by rw[av];exact c.wh,by rw[o];exact a8,by rw[o];exact c.topP,ar,λj W=>?_⟩
   ·rw[G,T p e];exact c.lay p e
   ·rw[o,ad _ c.curm a1];exact c.cont j W
  have aE:xP Q q (ld Q d) {a with i:=a.i+1}:=by
   intro x z B a9;simp only at z B ⊢;rw[o] at a9 ⊢
   by_cases bn:x=a.i
   ·subst bn
    rw[V];exact a3 a9
   ·rw[l _ (uv (by omega) (by omega))]
    exact g.2.2.2 x z (by omega) a9
  refine⟨⟨m,rfl⟩,ws,cur,q,H,?_,.inl ⟨rfl,rfl,K,rfl⟩,λx A=>?_,?_,λ_=>?_,a0⟩
  ·simp only[goes,yR]
   refine⟨K,.inl ⟨m,by rw[o,Y];exact a6,by rw[o];exact a7,?_⟩⟩;rw[Y]
   by_cases a2:a.i+1=a.b
   ·simp only[yf a2]
    exact .s13 rfl D (by rw[o];exact u) F E ⟨g.1,g.2.1,by simp only;omega,aE⟩ a2
   ·simp only[yb a2]
    exact .s11 rfl D (by rw[o];exact u) F E ⟨g.1,g.2.1,by simp only;omega,aE⟩ (by simp only;omega)
  ·simp only[goes]
   rw[o];refine A.kp (λp e=>e) (yE _) (λp e s=>by rw[T p e];exact s) λp e bp _ _ _=>ad p e (λs=>?_) _
   have:=yl Prod.fst s;have:=g.2.1;simp only at*;omega
  ·simp only[goes,yR,Sz]
   simp only[dN];rw[G,yf ⟨m,by split<;>omega,by split<;>omega⟩];have z:=S.1;have B:=S.2;rw[qQ m (by omega)] at z B;exact⟨z,B⟩
  ·by_cases a2:a.i+1=a.b
   ·simp[ew,goes,m,f,a2];omega
   ·simp[ew,goes,m,f,a2];omega
 |s13 f D u F E g am=>
  rw[f];simp only;have ab:=c.lay cur c.curm;have ba:=c.lay _ g.1;have A:=c.dl;have b0:=c.d0;have l:∀k,k≠d+2->ld (st C (d+2) a.nw) k=ld C k:=λk l=>dT l
  have V:ld (st C (d+2) a.nw) (d+2)=a.nw:=gC (by omega) (by omega);have o:=l d (by omega);have Y:=l (d+1) (by omega);have T:∀p∈ws,ld (st C (d+2) a.nw) p.1=ld C p.1:=λp e=>l _ (by have:=c.lay p e;omega)
  have X:∀p∈ws,∀x,ld (st C (d+2) a.nw) (ak p.1 p.2 x)=ld C (ak p.1 p.2 x):=λp e x=>l _ (by have:=c.place_in e x;omega)
  have G:=eQ C (d+2) a.nw;have a0:fB d C ws (st C (d+2) a.nw) ws:=jw (.inl ⟨by omega,by omega⟩);generalize st C (d+2) a.nw=Q at*;have b7:=u.2.2
  have H:dI d Q ws (a.nw,2*a.n) q P:=by
   refine⟨c.d0,by rw[G];exact c.dl,λp e=>?_,c.apart,g.1,V,by rw[o];exact a8,by rw[o];exact c.topP,by simp only;omega,λj W=>?_⟩
   ·rw[G,T p e];exact c.lay p e
   ·have b9:=g.2.2.2 (ld C d+j) (by have:=u.2.1;omega) (by omega) (by omega)
    rw[o,X _ g.1];simp only;rw[b9]
    congr 1
    omega
  refine⟨⟨m,rfl⟩,ws,(a.nw,2*a.n),q,H,?_,.inl ⟨rfl,rfl,K,rfl⟩,λx A=>?_,?_,λ_=>by simp[ew,goes,m,f],a0⟩
  ·simp only[goes,yR]
   refine⟨K,.inl ⟨m,by rw[o,Y];exact a6,by rw[o];exact a7,?_⟩⟩;rw[o,Y];exact .s20 rfl D ⟨u.1,u.2.1,by simp only;omega⟩ rfl rfl (by simp only;omega)
  ·simp only[goes]
   rw[o];exact A.kp (λp e=>e) (by have:=g.2.1;simp only;omega) (λp e s=>by rw[T p e];exact s) λp e _ _ _ _=>X p e _
  ·simp only[goes,yR,Sz]
   rw[G,kh (by simp)];have z:=S.1;have B:=S.2;rw[qQ m (by omega)] at z B;simp only;rw[E];exact⟨z,B⟩
 |s20 f D u F E b2=>
  rw[f];simp only;have ab:=c.lay cur c.curm;have A:=c.place_in c.curm a.b;have al:=c.dl;have b0:=c.d0;have bk:=u.2.1;rw[F,E];have l:∀k,k≠ak cur.1 cur.2 a.b->ld (st C (ak cur.1 cur.2 a.b) a.v) k=ld C k:=λk l=>dT l
  have V:ld (st C (ak cur.1 cur.2 a.b) a.v) (ak cur.1 cur.2 a.b)=a.v:=gC (by omega) (by omega);have o:=l d (by omega);have Y:=l (d+1) (by omega);have av:=l (d+2) (by omega);have T:∀p∈ws,ld (st C (ak cur.1 cur.2 a.b) a.v) p.1=ld C p.1:=λp e=>l _ (λs=>c.place_size c.curm e a.b s.symm)
  have ad:∀p∈ws,p≠cur->∀x,ld (st C (ak cur.1 cur.2 a.b) a.v) (ak p.1 p.2 x)=ld C (ak p.1 p.2 x):=λp e a1 x=>l _ (c.place_far e c.curm a1 x a.b)
  have b3:∀x,ld C d<=x->x<a.b->ld (st C (ak cur.1 cur.2 a.b) a.v) (ak cur.1 cur.2 x)=ld C (ak cur.1 cur.2 x):=λx z B=>l _ (uv B (by omega))
  have G:=eQ C (ak cur.1 cur.2 a.b) a.v;have a0:fB d C ws (st C (ak cur.1 cur.2 a.b) a.v) ws:=jw (nf (c.lay cur c.curm).1 c.curm);generalize st C (ak cur.1 cur.2 a.b) a.v=Q at*
  have H:dI d Q ws cur q P:=by
   refine⟨c.d0,by rw[G];exact c.dl,λp e=>?_,c.apart,c.curm,by rw[av];exact c.wh,by rw[o];exact a8,by rw[o];exact c.topP,ar,λj W=>?_⟩
   ·rw[G,T p e];exact c.lay p e
   ·rw[o,b3 _ (by omega) (by omega)];exact c.cont j W
  refine⟨⟨m,rfl⟩,ws,cur,q,H,?_,.inl ⟨rfl,rfl,K,rfl⟩,λx A=>?_,?_,λ_=>by simp[ew,goes,m,f],a0⟩
  ·simp only[goes,yR]
   refine⟨K,.inl ⟨m,by rw[o,Y];exact a6,by rw[o];exact a7,?_⟩⟩;rw[o,Y];exact .s21 rfl D u F E b2 (by simp only;rw[F,E];exact V)
  ·simp only[goes]
   rw[o];refine A.kp (λp e=>e) (yE _) (λp e s=>by rw[T p e];exact s) λp e _ z B _=>?_
   by_cases b4:p=cur
   ·subst b4
    exact b3 _ (by omega) (by omega)
   ·exact ad p e b4 _
  ·simp only[goes,yR,Sz]
   rw[G,kh (by simp)];have z:=S.1;have B:=S.2;rw[kh (by omega)] at z B;exact⟨z,B⟩
 |s21 f D u F E b2 hv=>
  rw[f];simp only;have al:=c.dl;have b0:=c.d0;have bk:=u.2.1;have l:∀k,k≠d+1->ld (st C (d+1) (a.b+1)) k=ld C k:=λk l=>dT l
  have V:ld (st C (d+1) (a.b+1)) (d+1)=a.b+1:=gC (by omega) (by omega);have G:=eQ C (d+1) (a.b+1);have a0:fB d C ws (st C (d+1) (a.b+1)) ws:=jw (.inl ⟨by omega,by omega⟩);generalize st C (d+1) (a.b+1)=Q at*;have H:=c.low G l;have o:=l d (by omega);have T:∀p∈ws,ld Q p.1=ld C p.1:=λp e=>l _ (by have:=c.lay p e;omega)
  have X:∀p∈ws,∀x,ld Q (ak p.1 p.2 x)=ld C (ak p.1 p.2 x):=λp e x=>l _ (by have:=c.place_in e x;omega)
  have an:((q++ [a.v]).length:Int)=q.length+1:=by simp
  refine⟨⟨m,rfl⟩,ws,cur,q++ [a.v],⟨H.d0,H.dl,H.lay,H.apart,H.curm,H.wh,H.top0,?_,by rw[an];omega,λj W=>?_⟩,?_,.inr ⟨rfl,rfl,rfl,rfl⟩,λx A=>?_,?_,λs=>by simp[over] at s,a0⟩
  ·simp only[over];rw[an,o];omega
  ·simp only[over]
   rcases zO j q.length with s|s
   ·rw[H.cont j s]
    simp[yc,yi s]
   ·obtain rfl:j=q.length:=by simp at W;omega
    rw[o,X _ c.curm,show ld C d+(q.length:Int)=a.b by omega,<-F,<-E,hv];simp[yc]
  ·simp only[over]
   show ld Q (d+1)=ld Q d+((q++ [a.v]).length:Int)
   rw[V,o,an];omega
  ·simp only[over]
   rw[o];have bm:=A.kp (C':=Q) (cur':=cur) (ws':=ws) (λp e=>e) (yE _) (λp e s=>by rw[T p e];exact s) λp e _ _ _ _=>X p e _
   refine bm.less λs=>⟨by simp,?_⟩
   cases q with
   |nil=>simp at s
   |cons y q=>rfl
  ·have z:=S.1
   have B:=S.2;rw[kh (by omega)] at z B;exact⟨by simp only[over];rw[G];exact z,B⟩
def cE:Option aC->List Int
 |none=>[]
 |some a=>if a.kn=1/\a.at_=8/\a.i=1 then [a.read] else []
structure xU(d:Int)(C:List Int)(ws:List (Int×Int))(cur:Int×Int)(q:List Int)(P:Int)(a:aC)(r:ke):Prop where
 same:r.a.kn=1
 ex:∃q',dI d r.C ws cur q' P/\lN (ld r.C d) (ld r.C (d+1)) cur r.C ws q' P (if r.what=0 then some r.a else none)/\
  (r.what=0/\r.val=0/\r.a.td=0/\q'++cE (some r.a)=q++cE (some a)\/r.what=2/\r.a.td=2/\q++cE (some a)=q'++ [r.val]\/r.what=3/\r.val=0/\r.a.td=3/\q= []/\cE (some a)= []/\q'= [])/\
  (∀x,dW (cU (some a)) (ld C d) cur C ws q x->dW (cU (if r.what=0 then some r.a else none)) (ld r.C d) cur r.C ws q' x)
theorem iE{a:aC}(b:a.at_≠8):cE (some a)= []:=by simp[cE,b]
theorem fC{a:aC}(c:¬(a.at_=5\/a.at_=6)):cU (some a)=1:=by simp only[cU];rw[yb (λb=>c b.2.1)]
theorem Fw{a:aC}(c:a.at_=0):cL d C a=goes {a with b:=ld C (d+1)-1} 1 C:=by cases a;cases c;rfl
theorem Fx{a:aC}(b:a.at_=1):cL d C a=goes {a with w:=ld C (d+2)} 2 C:=by cases a;cases b;rfl
theorem Fy{a:aC}(c:a.at_=2):cL d C a=goes a 3 (st C (d+1) a.b):=by cases a;cases c;rfl
theorem Fz{a:aC}(c:a.at_=3):cL d C a=goes {a with t:=ld C d} (if ld C d > a.b then 4 else 5) C:=by cases a;cases c;rfl
theorem FA{a:aC}(c:a.at_=4):cL d C a=over a 3 0 (st C (d+1) (a.b+1)):=by cases a;cases c;rfl
theorem FB{a:aC}(b:a.at_=5):cL d C a=goes {a with n:=ld C a.w} 6 C:=by cases a;cases b;rfl
theorem FC{a:aC}(c:a.at_=6):cL d C a=if a.t<a.b then over {a with read:=ld C (ak a.w a.n a.b)} 2 (ld C (ak a.w a.n a.b)) C else goes {a with read:=ld C (ak a.w a.n a.b)} 7 C:=by cases a;cases c;rfl
theorem FD{a:aC}(b:a.at_=7):cL d C a=if ld C d=a.t then goes {a with i:=1} 8 (st C d (a.t+1)) else goes {a with i:=0} 8 C:=by cases a;cases b;rfl
theorem FE{a:aC}(c:a.at_=8):cL d C a=if a.i=1 then over a 2 a.read (st C (d+1) (a.b+1)) else over a 3 0 (st C (d+1) (a.b+1)):=by cases a;cases c;rfl
theorem Ds(e:dI d C ws cur q P){a:aC}(f:a.kn=1)(s:a.td=0)(A:tw (ld C d) (ld C (d+1)) cur q a):
 xU d C ws cur q P a (cL d C a):=by
 have b3:=e.room;have ai:=e.top0;have a6:=e.d0;have av:=e.dl
 have K:∀r:ke,a.at_≠8->r.what=0->r.val=0->r.C=C->r.a.kn=1->r.a.td=0->r.a.at_≠8->tw (ld C d) (ld C (d+1)) cur q r.a->
  (∀x,dW (cU (some a)) (ld C d) cur C ws q x->dW (cU (some r.a)) (ld C d) cur C ws q x)->xU d C ws cur q P a r:=by
  intro r an W al X a3 a4 am az c;refine⟨a3,q,by rw[X];exact e,?_,.inl ⟨W,al,a4,by rw[iE an,iE am]⟩,λx l=>by rw[X,yf W];exact c x l⟩;rw[yf W,X];exact⟨a4,.inr ⟨a3,az⟩⟩
 have a1:∀x:Int,dI d (st C (d+1) x) ws cur q P/\ld (st C (d+1) x) d=ld C d/\ld (st C (d+1) x) (d+1)=x/\
  (∀a2 y,dW a2 (ld C d) cur C ws q y->dW a2 (ld C d) cur (st C (d+1) x) ws q y):=by
  intro x;have u:∀k,k≠d+1->ld (st C (d+1) x) k=ld C k:=λk u=>dT u
  refine⟨e.low (eQ _ _ _) u,u d (by omega),gC (by omega) (by omega),λa2 y b0=>?_⟩;exact b0.kp (λp A=>A) (yE _) (λp A l=>by rw[u _ (by have:=e.lay p A;omega)];exact l) λp A _ _ _ _=>u _ (by have:=e.place_in A y.t;omega)
 cases A with
 |s0 g V=>rw[Fw g];exact K _ (by omega) rfl rfl rfl f s (by simp[goes]) (.s1 rfl V rfl) λx c=>by rwa [fC (by simp[goes]),<-fC (a:=a) (by omega)]
 |s1 g V o=>rw[Fx g];exact K _ (by omega) rfl rfl rfl f s (by simp[goes]) (.s2 rfl V o e.wh) λx c=>by rwa [fC (by simp[goes]),<-fC (a:=a) (by omega)]
 |s2 g V o E=>
  rw[Fy g];obtain⟨G,B,T,H⟩:=a1 a.b;refine⟨f,q,G,⟨s,.inr ⟨f,.s3 rfl T (by simp only[goes];rw[B];omega) E⟩⟩,.inl ⟨rfl,rfl,s,by rw[iE (a:=a) (by omega),iE (by simp[goes])]⟩,λx c=>?_⟩;simp only[goes,yR];rw[B,fC (by simp),<-fC (a:=a) (by omega)];exact H _ x c
 |s3 g o m E=>
  rw[Fz g];have z:cU (some a)=1:=fC (by omega)
  by_cases a7:ld C d > a.b
  ·simp only[yf a7]
   have R:q= []:=yr (by omega);refine K _ (by omega) rfl rfl rfl f s (by simp[goes]) (.s4 rfl o R (by simp only[goes];subst R;simpa using m)) λx c=>?_
   rwa [fC (by simp[goes]),<-z]
  ·simp only[yb a7]
   refine K _ (by omega) rfl rfl rfl f s (by simp[goes]) (.s5 rfl o m E ⟨ai,by simp only[goes];omega,yE _⟩ λ_=>by simp only[goes];omega) λx c=>?_
   rw[z] at c
   by_cases D:ld C d<a.b
   ·have Q:cU (some (goes {a with t:=ld C d} 5 C).a)=2:=by simp[cU,goes,f,D]
    rw[Q];exact c.less λ_=>⟨by omega,rfl⟩
   ·have Q:cU (some (goes {a with t:=ld C d} 5 C).a)=1:=by simp only[cU,goes];rw[yb (λl=>D l.2.2)]
    rw[Q];exact c
 |s4 g o m S=>
  rw[FA g];obtain⟨G,B,T,H⟩:=a1 (a.b+1);refine⟨f,q,G,?_,.inr (.inr ⟨rfl,rfl,rfl,m,iE (by omega),m⟩),λx c=>?_⟩
  ·show ld (st C (d+1) (a.b+1)) (d+1)=ld (st C (d+1) (a.b+1)) d+q.length
   rw[B,T,m];simp;omega
  ·simp only[over]
   rw[B,fC (a:=a) (by omega)] at*;exact H _ x c
 |s5 g o m E S a0=>
  rw[FB g];refine K _ (by omega) rfl rfl rfl f s (by simp[goes]) (.s6 rfl o m E S a0 (by simp only[goes];rw[E];exact e.size e.curm)) λx c=>?_
  have:cU (some (goes {a with n:=ld C a.w} 6 C).a)=cU (some a):=by simp[cU,goes,f,g]
  rwa [this]
 |s6 g o m E S a0 aw=>
  rw[FC g]
  have a9:∀j:Nat,(j:Int)+1=q.length->ld C (ak a.w a.n a.b)=q.getD j 0:=by
   intro j a8;rw[E,aw,<-e.cont j (by omega)]
   congr 2
   omega
  by_cases D:a.t<a.b
  ·simp only[yf D]
   have F:=a0 D;have z:cU (some a)=2:=by simp[cU,f,g,D]
   obtain⟨q',v,rfl⟩ :∃q' v,q=q'++ [v]:=⟨q.dropLast,q.getLast (by intro l;subst l;simp at m;omega),(List.dropLast_concat_getLast _).symm⟩
   have b2:((q'++ [v]).length:Int)=q'.length+1:=by simp
   have hv:ld C (ak a.w a.n a.b)=v:=by
    rw[a9 q'.length (by omega)];simp[yc]
   rw[hv];refine⟨f,q',⟨a6,av,e.lay,e.apart,e.curm,e.wh,ai,by simp only[over];have:=e.topP;omega,by omega,λj a8=>?_⟩,?_,.inr (.inl ⟨rfl,rfl,by rw[iE (by omega)];simp[over]⟩),λx c=>?_⟩
   ·have:=e.cont j (by simp;omega)
    simp only[over];rw[this];simp[yc,yi a8]
   ·show ld C (d+1)=ld C d+q'.length
    omega
   ·rw[z] at c
    refine c.less λl=>⟨by simp only[over,cU];simp at l;simpa using l,?_⟩
    cases q' with
    |nil=>simp at l
    |cons y q'=>rfl
  ·simp only[yb D]
   refine K _ (by omega) rfl rfl rfl f s (by simp[goes]) (.s7 rfl o m (by simp only[goes];omega) (by simp only[goes];omega) λl=>?_) λx c=>?_
   ·simp only[goes] at l ⊢
    have F:q.length=1:=by omega
    obtain⟨v,rfl⟩:=List.length_eq_one_iff.1 F;rw[a9 0 (by simp)];rfl
   ·have Q:cU (some a)=1:=by simp only[cU];rw[yb (λl=>D l.2.2)]
    rw[fC (by simp[goes]),<-Q];exact c
 |s7 g o m S b4 aE=>
  rw[FD g];have z:cU (some a)=1:=fC (by omega)
  by_cases Y:ld C d=a.t
  ·simp only[yf Y]
   have ad:=aE (by omega);have ar:=e.pop ad;have a5:ld (st C d (ld C d+1)) d=ld C d+1:=gC a6 (by omega);have u:∀k,k≠d->ld (st C d (ld C d+1)) k=ld C k:=λk u=>dT u
   rw[<-Y];refine⟨f,[],ar,⟨s,.inr ⟨f,.s8 rfl (by simp only[goes];rw[u _ (by omega)];exact o) rfl (by simp only[goes];rw[a5];omega) (.inr rfl)⟩⟩,.inl ⟨rfl,rfl,s,?_⟩,λx c=>?_⟩
   ·rw[iE (a:=a) (by omega),ad]
    simp[cE,goes,f]
   ·simp only[goes,yR]
    rw[a5];exact c.late λp A l=>by rw[u _ (by have:=e.lay p A;omega)];exact l
  ·simp only[yb Y]
   have R:q= []:=yr (by omega);refine⟨f,q,e,⟨s,.inr ⟨f,.s8 rfl o R (by simp only[goes];subst R;simpa using m) (.inl rfl)⟩⟩,.inl ⟨rfl,rfl,s,?_⟩,λx c=>?_⟩
   ·rw[iE (a:=a) (by omega)]
    simp[cE,goes]
   ·simp only[goes,yR]
    rw[fC (by simp),<-z];exact c
 |s8 g o m S b1=>
  rw[FE g];obtain⟨G,B,T,H⟩:=a1 (a.b+1);have z:cU (some a)=1:=fC (by omega)
  have ab:lN (ld (st C (d+1) (a.b+1)) d) (ld (st C (d+1) (a.b+1)) (d+1)) cur (st C (d+1) (a.b+1)) ws q P none:=by
   show ld (st C (d+1) (a.b+1)) (d+1)=ld (st C (d+1) (a.b+1)) d+q.length;rw[B,T,m];simp;omega
  by_cases F:a.i=1
  ·simp only[yf F]
   refine⟨f,q,G,ab,.inr (.inl ⟨rfl,rfl,by simp[cE,f,g,F,over]⟩),λx c=>?_⟩;simp only[over];rw[B];rw[z] at c;exact H _ x c
  ·simp only[yb F]
   refine⟨f,q,G,ab,.inr (.inr ⟨rfl,rfl,rfl,m,by simp[cE,F],m⟩),λx c=>?_⟩;simp only[over];rw[B];rw[z] at c;exact H _ x c
theorem Dp(a:aC):(cL d C a).C.length=C.length:=by
 unfold cL;split<;>simp only[goes,over,eQ]
 ·split<;>simp only
 ·split<;>simp only[eQ]
 ·split<;>simp only[eQ]
theorem xE(a:aC):(bA d C a).C.length=C.length:=by
 unfold bA;split<;>simp only[goes,over]
 ·split<;>simp only
 ·split<;>simp only[eQ]
theorem BH{a:aC}(f:a.kn=1)(c:(cL d C a).what=0):ew P (cL d C a).a+1<=ew P a/\(cL d C a).a.kn=1:=by
 have j:a.at_<8:=by
  rcases zO a.at_ 8 with e|e
  ·exact e
  ·exfalso
   unfold cL at c;split at c<;>try omega
   split at c<;>simp[over] at c
 obtain⟨n,g⟩ :∃n,a.at_=n:=⟨_,rfl⟩
 obtain⟨kind,v,at_,b,t,w,n',nw,i,read,told,got⟩:=a;simp only at f g j;subst f g;have:at_=0\/at_=1\/at_=2\/at_=3\/at_=4\/at_=5\/at_=6\/at_=7:=by omega
 rcases this with rfl|rfl|rfl|rfl|rfl|rfl|rfl|rfl
 ·simp[cL,goes,ew]
 ·simp[cL,goes,ew]
 ·simp[cL,goes,ew]
 ·simp only[cL,goes,ew];exact⟨by split<;>omega,trivial⟩
 ·simp[cL,over] at c
 ·simp[cL,goes,ew]
 ·simp only[cL] at c ⊢
  split at c
  ·simp[over] at c
  ·rename_i k
   rw[yb k];simp[goes,ew]
 ·simp only[cL]
  split<;>simp[goes,ew]
theorem vs{a:aC}(f:a.kn=2)(c:(bA d C a).what=0):ew P (bA d C a).a+1<=ew P a/\(bA d C a).a.kn=2:=by
 have g:a.at_<5:=by
  rcases zO a.at_ 5 with e|e
  ·exact e
  ·exfalso
   unfold bA at c;split at c<;>try omega
   split at c<;>simp[over] at c
 obtain⟨kind,v,at_,b,t,w,n',nw,i,read,told,got⟩:=a;simp only at f g;subst f;have:at_=0\/at_=1\/at_=2\/at_=3\/at_=4:=by omega
 rcases this with rfl|rfl|rfl|rfl|rfl
 ·simp[bA,goes,ew]
 ·simp only[bA] at c ⊢
  split at c
  ·simp[over] at c
  ·rename_i j
   rw[yb j];simp[goes,ew]
 ·simp[bA,goes,ew]
 ·simp[bA,goes,ew]
 ·simp[bA,goes,ew]
theorem vr(a:aC):(bA d C a).a.kn=a.kn:=by
 unfold bA;split<;>simp only[goes,over]
 ·split<;>simp only
 ·split<;>simp only
end
def own(acts:List aC)(on:Option Nat):Option aC:=
 match on with
 |none=>none
 |some i=>match acts[i]? with
  |none=>none
  |some a=>if a.td=0 then some a else none
def lc:Option aC->List Int
 |none=>[]
 |some a=>if a.kn=0 then [a.v] else []
structure fZ(Z d:Int)(C:List Int)(acts:List aC)(on:Option Nat)(L:List Int)(P N:Int)(ws:List (Int×Int)):Prop where
 hN:2*P<=N
 onk:∀i,on=some i->∃a,acts[i]?=some a/\a.kn≠2
 kinds:∀(i:Nat) a,acts[i]?=some a->a.td=0->a.kn≠2->on=some i
 ex:∃cur q,dI d C ws cur q P/\lN (ld C d) (ld C (d+1)) cur C ws q P (own acts on)/\Sz Z C cur N (own acts on)/\L=q++cE (own acts on)++lc (own acts on)/\
  ∀(i:Nat) a,acts[i]?=some a->a.td=0->a.kn=2->dW (cU (own acts on)) (ld C d) cur C ws q a
def mX(a:aC)(r:ke)(L L':List Int):Prop:=
 r.what=0/\r.val=0/\r.a.td=0/\L'=L\/r.a.td=r.what/\
  (a.kn=0/\r.what=1/\r.val=0/\L'=L\/a.kn=1/\r.what=2/\L=L'++ [r.val]\/a.kn=1/\r.what=3/\r.val=0/\L= []/\L'= []\/
   a.kn=2/\r.what=2/\L=r.val :: L'\/a.kn=2/\(r.what=3\/r.what=4)/\r.val=0/\L'=L)
theorem dx{l:List aC}{i:Nat}{a b:aC}(c:l[i]?=some a):(l.set i b)[i]?=some b:=by
 have:=(gS c).1;simp[this]
theorem cJ{l:List aC}{i j:Nat}{b:aC}(e:j≠i):(l.set i b)[j]?=l[j]?:=by
 rw[zg];rw[yb (λc=>e c.symm)]
theorem eP{acts:List aC}{on:Option Nat}{i:Nat}{b:aC}(e:on≠some i):own (acts.set i b) on=own acts on:=by
 cases on with
 |none=>rfl
 |some j=>
  have f:j≠i:=λc=>e (by rw[c])
  simp only[own,cJ f]
theorem kH{acts:List aC}{i:Nat}{a b:aC}(c:acts[i]?=some a):own (acts.set i b) (some i)=if b.td=0 then some b else none:=by
 simp only[own,dx c]
theorem sy{Z d:Int}{C:List Int}{acts:List aC}{on:Option Nat}{L:List Int}{P N:Int}{ws:List (Int×Int)}(s:fZ Z d C acts on L P N ws){i:Nat}{a:aC}(t:acts[i]?=some a)(a2:a.td=0):
 ∃b0 ws',fZ Z d (pstep d C a).C (acts.set i (pstep d C a).a) on b0 P N ws'/\fB d C ws (pstep d C a).C ws'/\mX a (pstep d C a) L b0/\(pstep d C a).a.kn=a.kn/\((pstep d C a).what=0->ew P (pstep d C a).a+1<=ew P a):=by
 obtain⟨cur,q,z,R,T,y,a3⟩:=s.ex
 by_cases K:a.kn=2
 ·have a9:pstep d C a=bA d C a:=by simp only[pstep,K]
  have o:on≠some i:=λm=>by
   obtain⟨b,e,av⟩:=s.onk i m;rw[t] at e;cases e;exact av K
  have bm:=a3 i a t a2 K;have ab:=xL z R bm a2;have al:=vr (d:=d) (C:=C) a;have am:=xE (d:=d) (C:=C) a;have a8:=vs (d:=d) (C:=C) (P:=P) K;have Y:=xF d C ws a;rw[a9];generalize bA d C a=r at*
  have S:∀j,on=some j->∃b,(acts.set i r.a)[j]?=some b/\b.kn≠2:=by
   intro j f;obtain⟨b,e,av⟩:=s.onk j f;exact⟨b,by rw[cJ (λm=>o (by rw[f,m]))];exact e,av⟩
  have Q:∀(j:Nat) b,(acts.set i r.a)[j]?=some b->b.td=0->b.kn≠2->on=some j:=by
   intro j b e n l
   by_cases f:j=i
   ·subst f
    rw[dx t] at e
    cases e
    exact absurd (al.trans K) l
   ·rw[cJ f] at e
    exact s.kinds j b e n l
  rcases ab with⟨a1,a6,u,W,ar⟩|⟨a1,a6,u,W⟩|⟨a1,a6,u,q',W,ar⟩
  ·refine⟨L,ws,⟨s.hN,S,Q,cur,q,by rw[u];exact z,by rw[u,eP o];exact R,by rw[u,eP o];exact T,by rw[eP o];exact y,λj b e n l=>?_⟩,Y,.inl ⟨a1,a6,W,rfl⟩,al,λm=>(a8 m).1⟩
   rw[u,eP o]
   by_cases f:j=i
   ·subst f
    rw[dx t] at e
    cases e
    exact ar
   ·rw[cJ f] at e
    exact a3 j b e n l
  ·refine⟨L,ws,⟨s.hN,S,Q,cur,q,by rw[u];exact z,by rw[u,eP o];exact R,by rw[u,eP o];exact T,by rw[eP o];exact y,λj b e n l=>?_⟩,Y,.inr ⟨W,.inr (.inr (.inr (.inr ⟨K,a1,a6,rfl⟩)))⟩,al,λm=>(a8 m).1⟩
   rw[u,eP o]
   by_cases f:j=i
   ·subst f
    rw[dx t] at e
    cases e
    exfalso;omega
   ·rw[cJ f] at e
    exact a3 j b e n l
  ·have b3:=z.pop W
   have b5:=R.pop z W ar;rw[<-u] at b3 b5;have ba:ld r.C d=ld C d+1:=by rw[u];exact gC z.d0 (by have:=z.dl;omega)
   have az:∀k,k≠d->ld r.C k=ld C k:=λk az=>by rw[u];exact dT az
   refine⟨q'++cE (own acts on)++lc (own acts on),ws,⟨s.hN,S,Q,cur,q',b3,by rw[eP o];exact b5,by rw[eP o,Sz,am];exact T,by rw[eP o],λj b e n l=>?_⟩,Y,.inr ⟨by rw[a1,a6],.inr (.inr (.inr (.inl ⟨K,a1,by rw[y,W];simp⟩)))⟩,al,λm=>(a8 m).1⟩;rw[eP o,ba]
   by_cases f:j=i
   ·subst f
    rw[dx t] at e
    cases e
    exfalso;omega
   ·rw[cJ f] at e
    exact(a3 j b e n l).late λp a7 bf=>by rw[az _ (by have:=z.lay p a7;have:=z.d0;omega)];exact bf
 ·have o:on=some i:=s.kinds i a t a2 K
  subst o;have bc:own acts (some i)=some a:=by simp only[own,t,a2,yR]
  rw[bc] at R T y a3
  have S:∀b:aC,b.kn≠2->∀j,some i=some j->∃c,(acts.set i b)[j]?=some c/\c.kn≠2:=by
   intro b e j f
   cases f
   exact⟨b,dx t,e⟩
  have Q:∀b:aC,∀(j:Nat) c,(acts.set i b)[j]?=some c->c.td=0->c.kn≠2->some i=some j:=by
   intro b j c X aw ai
   by_cases f:j=i
   ·rw[f]
   ·rw[cJ f] at X
    exact s.kinds j c X aw ai
  have an:∀b:aC,b.kn≠2->∀(j:Nat) c,(acts.set i b)[j]?=some c->c.td=0->c.kn=2->dW (cU (some a)) (ld C d) cur C ws q c:=by
   intro b e j c X aw ai
   by_cases f:j=i
   ·subst f
    rw[dx t] at X
    cases X
    exact absurd ai e
   ·rw[cJ f] at X
    exact a3 j c X aw ai
  obtain⟨_,R⟩:=R
  rcases R with⟨H,b6,b7,a7⟩|⟨A,a7⟩
  ·have a9:pstep d C a=fH d C a:=by simp only[pstep,H]
   rw[a9];have ab:=BO z H a2 b6 b7 a7 s.hN T;generalize fH d C a=r at*;obtain⟨⟨x,bo⟩,ws',cur',q',a4,E,a5,V,ad,b1,b2⟩:=ab;have b4:cU (some a)=1:=by simp[cU,H]
   have bb:cE (some a)= []:=by simp[cE,H]
   have aE:lc (some a)= [a.v]:=by simp[lc,H]
   rw[bb,aE] at y;have F:r.a.kn≠2:=by rw[x];decide
   rcases a5 with⟨B,D,G,a0⟩|⟨B,D,G,a0⟩
   ·have g:own (acts.set i r.a) (some i)=some r.a:=by rw[kH t,yf G]
    rw[yf B] at E ad;refine⟨L,ws',⟨s.hN,S _ F,Q _,cur',q',a4,by rw[g];exact E,by rw[g];exact ad,?_,λj b e n l=>?_⟩,b2,.inl ⟨B,D,G,rfl⟩,by rw[x,H],b1⟩
    ·rw[g,a0,y,bo.symm]
     simp[cE,lc,x]
    ·rw[g]
     have:cU (some r.a)=1:=by simp[cU,x]
     rw[this];have:=an _ F j b e n l;rw[b4] at this;exact V b this
   ·have g:own (acts.set i r.a) (some i)=none:=by rw[kH t,yb (by omega)]
    rw[yb (by omega)] at E ad;refine⟨L,ws',⟨s.hN,S _ F,Q _,cur',q',a4,by rw[g];exact E,by rw[g];exact ad,?_,λj b e n l=>?_⟩,b2,.inr ⟨by omega,.inl ⟨H,B,D,rfl⟩⟩,by rw[x,H],b1⟩
    ·rw[g,a0,y]
     simp[cE,lc]
    ·rw[g]
     have:=an _ F j b e n l;rw[b4] at this;exact V b this
  ·have a9:pstep d C a=cL d C a:=by simp only[pstep,A]
   rw[a9];have ab:=Ds z A a2 a7;have am:=Dp (d:=d) (C:=C) a;have a8:=BH (d:=d) (C:=C) (P:=P) A;have Y:=Dq d C ws a;generalize cL d C a=r at*;obtain⟨x,q',a4,E,a5,V⟩:=ab;have aE:lc (some a)= []:=by simp[lc,A]
   rw[aE,zA] at y;have F:r.a.kn≠2:=by rw[x];decide
   have b8:dN cur (some a)=cur.2:=by simp[dN,A]
   rw[Sz,b8] at T
   by_cases B:r.what=0
   ·rcases a5 with⟨_,D,G,a0⟩|⟨w,_⟩|⟨w,_⟩
    ·have g:own (acts.set i r.a) (some i)=some r.a:=by rw[kH t,yf G]
     rw[yf B] at E V;have b9:dN cur (some r.a)=cur.2:=by simp[dN,x]
     refine⟨L,ws,⟨s.hN,S _ F,Q _,cur,q',a4,by rw[g];exact E,by rw[g,Sz,b9,am];exact T,?_,λj b e n l=>?_⟩,Y,.inl ⟨B,D,G,rfl⟩,by rw[x,A],λm=>(a8 m).1⟩
     ·rw[g,y,<-a0]
      simp[lc,x]
     ·rw[g]
      exact V b (an _ F j b e n l)
    ·omega
    ·omega
   ·rw[yb B] at E V
    have bk:Sz Z r.C cur N none:=by rw[Sz,am];exact T
    have bn:r.a.td≠0:=by rcases a5 with⟨w,_⟩|⟨w,D,_⟩|⟨w,_,D,_⟩<;>omega
    have g:own (acts.set i r.a) (some i)=none:=by rw[kH t,yb bn]
    have key:fZ Z d r.C (acts.set i r.a) (some i) q' P N ws:=by
     refine⟨s.hN,S _ F,Q _,cur,q',a4,by rw[g];exact E,by rw[g];exact bk,by rw[g];simp[cE,lc],λj b e n l=>?_⟩;rw[g];exact V b (an _ F j b e n l)
    rcases a5 with⟨w,_⟩|⟨w,D,G⟩|⟨w,D,G,a0,bp,bq⟩
    ·omega
    ·exact⟨q',ws,key,Y,.inr ⟨by omega,.inr (.inl ⟨A,w,by rw[y,G]⟩)⟩,by rw[x,A],λm=>absurd m B⟩
    ·exact⟨q',ws,key,Y,.inr ⟨by omega,.inr (.inr (.inl ⟨A,w,D,by rw[y,a0,bp];rfl,bq⟩))⟩,by rw[x,A],λm=>absurd m B⟩
structure fu(d:Int)(ws:List (Int×Int))(C C':List Int):Prop where
 eq:∀k,iU d ws k->ld C' k=ld C k
 len:C.length<=C'.length
section
variable {d:Int}{C C':List Int}{ws:List (Int×Int)}{cur:Int×Int}{q:List Int}{P top bot:Int}{a:aC}
theorem fu.d0(b:fu d ws C C'):ld C' d=ld C d:=b.eq _ (.inl ⟨by omega,by omega⟩)
theorem fu.d1(b:fu d ws C C'):ld C' (d+1)=ld C (d+1):=b.eq _ (.inl ⟨by omega,by omega⟩)
theorem fu.d2(b:fu d ws C C'):ld C' (d+2)=ld C (d+2):=b.eq _ (.inl ⟨by omega,by omega⟩)
theorem fu.at_(c:fu d ws C C')(e:dI d C ws cur q P){p:Int×Int}(b:p∈ws):ld C' p.1=ld C p.1:=c.eq _ (.inr ⟨p,b,by omega,by have:=(e.lay p b).1;omega⟩)
theorem fu.place_(c:fu d ws C C')(e:dI d C ws cur q P){p:Int×Int}(b:p∈ws)(i:Int):ld C' (ak p.1 p.2 i)=ld C (ak p.1 p.2 i):=c.eq _ (nf (e.lay p b).1 b)
theorem fu.core(c:fu d ws C C')(b:dI d C ws cur q P):dI d C' ws cur q P:=
 ⟨b.d0,by have:=b.dl;have:=c.len;omega,λp f=>by
  have e:=b.lay p f;have k:=c.len;exact⟨e.1,e.2.1,by omega,by rw[c.at_ b f];exact e.2.2.2⟩,b.apart,b.curm,by rw[c.d2];exact b.wh,by rw[c.d0];exact b.top0,by rw[c.d0];exact b.topP,b.room,λj g=>by
  rw[c.d0,c.place_ b b.curm];exact b.cont j g⟩
theorem fu.grow(b:fu d ws C C')(j:dI d C ws cur q P)(g:Grow C ws q cur top a):Grow C' ws q cur top a:=
 ⟨g.1,g.2.1,g.2.2.1,λx c e f=>by
   rw[b.place_ j (p:=(a.nw,2*a.n)) g.1];exact g.2.2.2 x c e f⟩
theorem fu.push(m:fu d ws C C')(k:dI d C ws cur q P)(g:pj top bot cur C ws q a):pj top bot cur C' ws q a:=by
 cases g with
 |s0 b=>exact .s0 b
 |s1 b c=>exact .s1 b c
 |s2 b c e=>exact .s2 b c e
 |s3 b c e f=>exact .s3 b c e f
 |s10 b c e f j o=>exact .s10 b c e f j o
 |s11 b c e f j g l=>exact .s11 b c e f j (m.grow k g) l
 |s12 b c e f j g l p=>exact .s12 b c e f j (m.grow k g) l p
 |s13 b c e f j g l=>exact .s13 b c e f j (m.grow k g) l
 |s20 b c e f j n=>exact .s20 b c e f j n
 |s21 b c e f j n hv=>exact .s21 b c e f j n (by rw[f,j,m.place_ k k.curm,<-f,<-j];exact hv)
theorem fu.owner(f:fu d ws C C')(n:dI d C ws cur q P){o:Option aC}(g:lN top bot cur C ws q P o):lN top bot cur C' ws q P o:=by
 cases o with
 |none=>exact g
 |some b=>
  obtain⟨e,c⟩:=g
  rcases c with⟨j,k,l,m⟩|c
  ·exact⟨e,.inl ⟨j,k,l,f.push n m⟩⟩
  ·exact⟨e,.inr c⟩
theorem fu.thief(k:fu d ws C C')(l:dI d C ws cur q P){o:Nat}(g:dW o top cur C ws q a):dW o top cur C' ws q a:=by
 cases g with
 |s0 b=>exact .s0 b
 |s1 b c=>exact .s1 b c
 |s2 b c e=>exact .s2 b c e
 |s3 b c e f n=>
  have j:ld C' a.w=ld C a.w:=k.at_ l f.1;exact .s3 b c e (by rw[j];exact f) (λm=>by rw[j,k.place_ l f.1];exact n m)
 |s4 b c e f n p=>
  have j:ld C' a.w=ld C a.w:=k.at_ l f.1;exact .s4 b c e (by rw[j];exact f) (λm=>by rw[j,k.place_ l f.1];exact n m) (by rw[j];exact p)
 |s5 b c e r=>exact .s5 b c e r
theorem fZ.agree{Z e:Int}{acts:List aC}{on:Option Nat}{L:List Int}{N:Int}(g:fZ Z d C acts on L P N ws)(b:fu d ws C C')(t:(C'.length:Int)-C.length<=e-Z):fZ e d C' acts on L P N ws:=by
 obtain⟨k,l,m,cur,q,c,s,f,n,o⟩:=g;refine⟨k,l,m,cur,q,b.core c,?_,⟨by have:=f.1;omega,f.2⟩,n,λi a p j r=>?_⟩
 ·rw[b.d0,b.d1]
  exact b.owner c s
 ·rw[b.d0]
  exact b.thief c (o i a p j r)
theorem fB.agree{b:Int}{f l:List (Int×Int)}(c:fB b C f C' l)(g:∀k,iU d ws k->¬iU b f k)(j:∀k,iU d ws k->k<(C.length:Int)):fu d ws C C':=
 ⟨λk e=>c.kp k (j k e) (g k e),c.len⟩
theorem dI.foot_in(b:dI d C ws cur q P)(k:Int)(c:iU d ws k):k<(C.length:Int):=by
 rcases c with c|⟨p,e,f,g⟩
 ·have:=b.dl;omega
 ·have:=(b.lay p e).2.2.1;omega
end
structure aT where
 d:Int
 ws:List (Int×Int)
 acts:List aC
 on:Option Nat
 L:List Int
 own:Int
 P:Int
 c0:Int
def aT.N(x:aT):Int:=max x.c0 (2*x.P)
def aT.Z(x:aT)(C:List Int):Int:=(C.length:Int)-x.own+4-2*x.c0
structure fI(C:List Int)(ds:List aT):Prop where
 each:∀(i:Nat) (x:aT),ds[i]?=some x->fZ (x.Z C) x.d C x.acts x.on x.L x.P x.N x.ws
 apart:∀(i j:Nat) (x y:aT),i≠j->ds[i]?=some x->ds[j]?=some y->∀k,iU x.d x.ws k->¬iU y.d y.ws k
 sum:(C.length:Int)=(ds.map aT.own).sum
 c0s:∀(i:Nat) (x:aT),ds[i]?=some x->1<=x.c0
theorem mU(f:aT->Int):∀(l:List aT) (i:Nat) (x y:aT),l[i]?=some x->((l.set i y).map f).sum=(l.map f).sum-f x+f y
 | [],i,x,y,b=>by simp at b
 |a :: l,0,x,y,b=>by
  simp at b;subst b;simp;omega
 |a :: l,i+1,x,y,b=>by
  have c:=mU f l i x y (by simpa using b);simp only[List.set_cons_succ,zc,zH,c];omega
theorem fJ{l:List aT}{i:Nat}{x y:aT}(b:l[i]?=some x):(l.set i y)[i]?=some y:=by
 have:=(gS b).1;simp[this]
theorem ez{l:List aT}{i j:Nat}{y:aT}(c:j≠i):(l.set i y)[j]?=l[j]?:=by
 rw[zg,yb (λb=>c b.symm)]
theorem fZ.foot_in{Z d:Int}{C:List Int}{acts:List aC}{on:Option Nat}{L:List Int}{P N:Int}{ws:List (Int×Int)}(b:fZ Z d C acts on L P N ws)(k:Int)(e:iU d ws k):k<(C.length:Int):=by
 obtain⟨_,_,_,cur,q,c,_⟩:=b;exact c.foot_in k e
theorem Bi{C:List Int}{ds:List aT}(c:fI C ds){i:Nat}{x:aT}(f:ds[i]?=some x){k:Nat}{a:aC}(D:x.acts[k]?=some a)(A:a.td=0):
 ∃m ws',fI (pstep x.d C a).C (ds.set i ⟨x.d,ws',x.acts.set k (pstep x.d C a).a,x.on,m,x.own+((pstep x.d C a).C.length-C.length),x.P,x.c0⟩)/\mX a (pstep x.d C a) x.L m/\(pstep x.d C a).a.kn=a.kn/\((pstep x.d C a).what=0->ew x.P (pstep x.d C a).a+1<=ew x.P a):=by
 have B:=c.each i x f;obtain⟨m,ws',F,u,G,H,K⟩:=sy B D A;generalize pstep x.d C a=r at*;refine⟨m,ws',⟨λj y b=>?_,λj l y z t b g kk=>?_,?_,λj y b=>?_⟩,G,H,K⟩
 ·by_cases e:j=i
  ·subst e
   rw[fJ f] at b
   cases b
   have s:aT.Z ⟨x.d,ws',x.acts.set k r.a,x.on,m,x.own+((r.C.length:Int)-C.length),x.P,x.c0⟩ r.C=x.Z C:=by simp only[aT.Z];omega
   rw[s];exact F
  ·rw[ez e] at b
   have w:=c.each j y b;exact w.agree (u.agree (λq E=>c.apart j i y x e b f q E) w.foot_in) (by simp only[aT.Z];omega)
 ·by_cases e:j=i
  ·subst e
   rw[fJ f] at b
   cases b
   rw[ez (λs=>t s.symm)] at g;intro o p
   rcases u.own kk o with n|n
   ·exact c.apart j l x z t f g kk n p
   ·have:=(c.each l z g).foot_in kk p
    omega
  ·rw[ez e] at b
   by_cases v:l=i
   ·subst v
    rw[fJ f] at g
    cases g
    intro o p
    rcases u.own kk p with n|n
    ·exact c.apart j l y x e b f kk o n
    ·have:=(c.each j y b).foot_in kk o
     omega
   ·rw[ez v] at g
    exact c.apart j l y z t b g kk
 ·rw[mU aT.own ds i x _ f,<-c.sum]
  simp only;omega
 ·by_cases e:j=i
  ·subst e
   rw[fJ f] at b
   cases b
   exact c.c0s j x f
  ·rw[ez e] at b
   exact c.c0s j y b
theorem Bh{C:List Int}{ds:List aT}(b:fI C ds){i j:Nat}{x y:aT}(e:ds[i]?=some x)(f:ds[j]?=some y)(n:j≠i){k:Nat}{a:aC}(m:x.acts[k]?=some a)(l:a.td=0):∀q,iU y.d y.ws q->ld (pstep x.d C a).C q=ld C q:=by
 obtain⟨p,ws',r,o,s,t,u⟩:=sy (b.each i x e) m l;intro q c;exact o.kp q ((b.each j y f).foot_in q c) (λg=>b.apart j i y x n f e q c g)
def bV(d:Int)(n:Nat):List Int:=0 :: 0 :: (d+3) :: (n:Int) :: List.replicate n 0
theorem mw(d:Int)(n:Nat):(bV d n).length=4+n:=by simp[bV];omega
theorem px(C l:List Int)(j:Nat)(b:j<l.length):ld (C++l) ((C.length:Int)+(j:Int))=l.getD j 0:=by
 unfold ld;rw[yf ⟨by omega,by rw[yk];omega⟩,show((C.length:Int)+(j:Int)).toNat=C.length+j by omega];simp[yc,yK]
theorem vg(C:List Int)(n:Nat)(P N:Int)(y:1<=n)(v:(n:Int)<=N)(m:0<=P)(o:2*P<=N):
 fZ (((C++bV C.length n).length:Int)-(4+n)+4-2*n) C.length (C++bV C.length n) [] none [] P N [((C.length:Int)+3,(n:Int))]:=by
 have u:=mw C.length n
 have f:ld (C++bV C.length n) (C.length:Int)=0:=by
  have:=px C (bV C.length n) 0 (by omega)
  simpa[bV] using this
 have g:ld (C++bV C.length n) ((C.length:Int)+1)=0:=by
  have:=px C (bV C.length n) 1 (by omega)
  simpa[bV] using this
 have k:ld (C++bV C.length n) ((C.length:Int)+2)=(C.length:Int)+3:=by
  have:=px C (bV C.length n) 2 (by omega)
  simpa[bV] using this
 have l:ld (C++bV C.length n) ((C.length:Int)+3)=(n:Int):=by
  have:=px C (bV C.length n) 3 (by omega)
  simpa[bV] using this
 generalize s:C++bV C.length n=c at*;have x:c.length=C.length+(4+n):=by rw[<-s,yk,u]
 refine⟨o,(λi b=>by cases b),(λi a b=>by simp at b),((C.length:Int)+3,(n:Int)),[],⟨by omega,by omega,λp e=>?_,λp e r w=>?_,by simp,k,by omega,by rw[f];simpa using m,by simp,(λj t=>by simp at t)⟩,?_,⟨?_,?_⟩,?_,(λi a b=>by simp at b)⟩
 ·rw[yw.1 e]
  exact⟨by simp only;omega,by simp only;omega,by simp only;omega,l⟩
 ·rw[yw.1 e,yw.1 w]
  exact .inl rfl
 ·show ld c ((C.length:Int)+1)=ld c (C.length:Int)+(([]:List Int).length:Int)
  rw[f,g];simp
 ·simp only[own,dN]
  omega
 ·simpa[own,dN] using v
 ·simp[own,cE,lc]
theorem C8{C:List Int}{ds:List aT}(e:fI C ds)(n:Nat)(z:1<=n):
 fI (C++bV C.length n) (ds++ [⟨C.length,[((C.length:Int)+3,(n:Int))],[],none,[],4+n,0,n⟩]):=by
 have w:=vg C n 0 (max n (2*0)) z (by omega) (by omega) (by omega);have v:=mw C.length n
 have o:∀k,iU (C.length:Int) [((C.length:Int)+3,(n:Int))] k->(C.length:Int)<=k:=λk c=>by
  rcases c with c|⟨p,A,m,E⟩
  ·omega
  ·rw[yw.1 A] at m
   simp only at m;omega
 have f:∀(i:Nat) (x:aT),(ds++ [⟨C.length,[((C.length:Int)+3,(n:Int))],[],none,[],4+n,0,n⟩])[i]?=some x->ds[i]?=some x\/(i=ds.length/\x=⟨C.length,[((C.length:Int)+3,(n:Int))],[],none,[],4+n,0,n⟩):=λi x b=>by
  by_cases s:i<ds.length
  ·rw[yi s] at b
   exact .inl b
  ·rw[yK (by omega)] at b
   have t:i-ds.length=0:=by
    have:=(gS b).1;simp at this;omega
   rw[t] at b;simp at b;exact .inr ⟨by omega,b.symm⟩
 refine⟨λi x b=>?_,λi j x y u b g k c l=>?_,?_,λi x b=>?_⟩
 ·rcases f i x b with b|⟨_,rfl⟩
  ·have r:=e.each i x b
   exact r.agree ⟨λk c=>md (r.foot_in k c),by simp⟩ (by simp only[aT.Z];omega)
  ·exact w
 ·rcases f i x b with b|⟨B,rfl⟩<;>rcases f j y g with g|⟨D,rfl⟩
  ·exact e.apart i j x y u b g k c l
  ·have:=(e.each i x b).foot_in k c
   have:=o k l;omega
  ·have:=(e.each j y g).foot_in k l
   have:=o k c;omega
  ·omega
 ·rw[yS,List.sum_append,<-e.sum,yk,v]
  simp
 ·rcases f i x b with b|⟨_,rfl⟩
  ·exact e.c0s i x b
  ·simp only;omega
section
variable {Z d:Int}{C:List Int}{acts:List aC}{on:Option Nat}{L:List Int}{P N:Int}{ws:List (Int×Int)}
theorem rq(e:∀i,on=some i->∃a,acts[i]?=some a/\a.kn≠2)(b:aC):own (acts++ [b]) on=own acts on:=by
 cases on with
 |none=>rfl
 |some i=>
  obtain⟨a,c,_⟩:=e i rfl;have:=(gS c).1;simp only[own,yi this]
theorem lq{b:aC}{i:Nat}{a:aC}(c:(acts++ [b])[i]?=some a):acts[i]?=some a\/(i=acts.length/\a=b):=by
 rcases zO i acts.length with e|e
 ·rw[yi e] at c;exact .inl c
 ·rw[yK e] at c
  obtain⟨k,f⟩ :∃k,i-acts.length=k:=⟨_,rfl⟩
  rw[f] at c
  cases k with
  |zero=>simp at c;exact .inr ⟨by omega,c.symm⟩
  |succ k=>simp at c
theorem wU(e:fZ Z d C acts on L P N ws):fZ Z d C (acts++ [cQ 2 0]) on L P N ws:=by
 obtain⟨cur,q,l,n,o,j,k⟩:=e.ex;have f:=rq e.onk (cQ 2 0);refine⟨e.hN,λi m=>?_,λi a b g c=>?_,cur,q,l,by rw[f];exact n,by rw[f];exact o,by rw[f];exact j,λi a b g c=>?_⟩
 ·obtain⟨a,b,c⟩:=e.onk i m
  exact⟨a,by rw[yi (gS b).1];exact b,c⟩
 ·rcases lq b with b|⟨_,rfl⟩
  ·exact e.kinds i a b g c
  ·exact absurd rfl c
 ·rw[f]
  rcases lq b with b|⟨_,rfl⟩
  ·exact k i a b g c
  ·exact .s0 rfl
theorem uf(l:fZ Z d C acts on L P N ws)(m:own acts on=none)(k:Nat)(v:Int)(g:k=0/\2*(P+1)<=N\/k=1):
 fZ Z d C (acts++ [cQ k v]) (some acts.length) (L++(if k=0 then [v] else [])) (if k=0 then P+1 else P) N ws:=by
 obtain⟨cur,q,b,t,u,p,r⟩:=l.ex;rw[m] at t u p r;have j:own (acts++ [cQ k v]) (some acts.length)=some (cQ k v):=by simp[own,cQ]
 have s:k≠2:=by omega
 have z:∀(i:Nat) a,acts[i]?=some a->a.td=0->a.kn≠2->False:=by
  intro i a c e f;have:=l.kinds i a c e f;subst this;simp only[own,c,e,yR] at m
  cases m
 have o:ld C (d+1)=ld C d+q.length:=t;have y:cU (some (cQ k v))=1:=by rcases g with⟨rfl,_⟩|rfl<;>simp[cU,cQ]
 have x:cE (some (cQ k v))= []:=by simp[cE,cQ]
 have w:dN cur (some (cQ k v))=cur.2:=by simp[dN,cQ]
 have A:P<=(if k=0 then P+1 else P):=by split<;>omega
 refine⟨by split<;>rcases g with⟨rfl,g⟩|rfl<;>first|omega|exact l.hN|(simp at*;omega),λi n=>?_,λi a c e f=>?_,cur,q,⟨b.d0,b.dl,b.lay,b.apart,b.curm,b.wh,b.top0,by have:=b.topP;omega,b.room,b.cont⟩,?_,by rw[j,Sz,w];exact u,?_,λi a c e f=>?_⟩
 ·cases n
  exact⟨cQ k v,by simp,s⟩
 ·rcases lq c with c|⟨n,rfl⟩
  ·exact(z i a c e f).elim
  ·rw[n]
 ·rw[j]
  refine⟨rfl,?_⟩
  rcases g with⟨rfl,_⟩|rfl
  ·exact .inl ⟨rfl,o,by have:=b.topP;simp;omega,.s0 rfl⟩
  ·exact .inr ⟨rfl,.s0 rfl o⟩
 ·rw[j,x,p]
  rcases g with⟨rfl,_⟩|rfl<;>simp[cE,lc,cQ]
 ·rw[j,y]
  rcases lq c with c|⟨_,rfl⟩
  ·exact r i a c e f
  ·exact absurd f s
end
section
variable {Z d:Int}{C:List Int}{acts:List aC}{on:Option Nat}{L:List Int}{P N:Int}{ws:List (Int×Int)}
theorem fZ.moreN{N':Int}(c:fZ Z d C acts on L P N ws)(n:N<=N'):fZ Z d C acts on L P N' ws:=by
 obtain⟨m,e,f,cur,q,k,l,b,g,j⟩:=c;exact⟨by omega,e,f,cur,q,k,l,⟨b.1,by have:=b.2;omega⟩,g,j⟩
end
theorem fI.turn{C:List Int}{ds:List aT}(f:fI C ds){i:Nat}{x y:aT}(e:ds[i]?=some x)(t:fZ (y.Z C) y.d C y.acts y.on y.L y.P y.N y.ws)(m:y.d=x.d)(n:y.ws=x.ws)(r:y.own=x.own)(s:y.c0=x.c0):fI C (ds.set i y):=by
 refine⟨λj z b=>?_,λj l z u k b g kk=>?_,?_,λj z b=>?_⟩
 ·by_cases c:j=i
  ·subst c
   rw[fJ e] at b
   cases b
   exact t
  ·rw[ez c] at b
   exact f.each j z b
 ·by_cases c:j=i
  ·subst c
   rw[fJ e] at b
   cases b
   rw[ez (λp=>k p.symm)] at g;rw[m,n];exact f.apart j l x u k e g kk
  ·rw[ez c] at b
   by_cases o:l=i
   ·subst o
    rw[fJ e] at g
    cases g
    rw[m,n];exact f.apart j l z x c b e kk
   ·rw[ez o] at g
    exact f.apart j l z u k b g kk
 ·rw[mU aT.own ds i x y e,<-f.sum,r]
  omega
 ·by_cases c:j=i
  ·subst c
   rw[fJ e] at b
   cases b
   rw[s];exact f.c0s j x e
  ·rw[ez c] at b
   exact f.c0s j z b
theorem wV{C:List Int}{ds:List aT}(b:fI C ds){i:Nat}{x:aT}(c:ds[i]?=some x):fI C (ds.set i {x with acts:=x.acts++ [cQ 2 0]}):=
 b.turn c (wU (b.each i x c)) rfl rfl rfl rfl
theorem uh{C:List Int}{ds:List aT}(b:fI C ds){i:Nat}{x:aT}(f:ds[i]?=some x)(c:own x.acts x.on=none)(k:Nat)(v:Int)(j:k=0\/k=1):
 fI C (ds.set i {x with acts:=x.acts++ [cQ k v],on:=some x.acts.length,L:=x.L++(if k=0 then [v] else []),P:=if k=0 then x.P+1 else x.P}):=by
 refine b.turn f ?_ rfl rfl rfl rfl;have e:=b.each i x f;have g:∀a o l p,aT.Z {x with acts:=a,on:=o,L:=l,P:=p} C=x.Z C:=λ_ _ _ _=>rfl
 rw[g]
 rcases j with rfl|rfl
 ·exact uf (e.moreN (N':=max x.c0 (2*(x.P+1))) (by unfold aT.N;omega)) c 0 v (.inl ⟨rfl,by omega⟩)
 ·exact uf e c 1 v (.inr rfl)
def bC(a:aC):Int:=
 match a.kn with
 |0=>match a.at_ with
  |0=>7
  |1=>6
  |2=>5
  |3=>4
  |10=>3
  |11=>2*(a.b-a.i)+4
  |12=>2*(a.b-a.i)+3
  |13=>3
  |20=>2
  |_=>1
 |1=>9-(a.at_:Int)
 |_=>6-(a.at_:Int)
section
variable {Z d:Int}{C:List Int}{acts:List aC}{on:Option Nat}{L:List Int}{P N:Int}{ws:List (Int×Int)}{i:Nat}{a:aC}
theorem sx(c:fZ Z d C acts on L P N ws)(f:acts[i]?=some a)(e:a.td=0)(o:a.kn=0):∃cur q,dI d C ws cur q P/\pj (ld C d) (ld C (d+1)) cur C ws q a:=by
 obtain⟨cur,q,g,b,r,m,n⟩:=c.ex;have j:=c.kinds i a f e (by omega);subst j;have k:own acts (some i)=some a:=by simp only[own,f,e,yR]
 rw[k] at b;obtain⟨_,b⟩:=b
 rcases b with⟨_,_,_,l⟩|⟨p,_⟩
 ·exact⟨cur,q,g,l⟩
 ·omega
theorem ug(c:fZ Z d C acts on L P N ws)(f:acts[i]?=some a)(e:a.td=0)(o:a.kn=1):∃cur q,dI d C ws cur q P/\tw (ld C d) (ld C (d+1)) cur q a:=by
 obtain⟨cur,q,g,b,r,m,n⟩:=c.ex;have j:=c.kinds i a f e (by omega);subst j;have k:own acts (some i)=some a:=by simp only[own,f,e,yR]
 rw[k] at b;obtain⟨_,b⟩:=b
 rcases b with⟨p,_⟩|⟨_,l⟩
 ·omega
 ·exact⟨cur,q,g,l⟩
theorem FF{top bot:Int}{cur:Int×Int}{q:List Int}(c:tw top bot cur q a):a.at_<=8:=by
 have e:a.at_=0\/a.at_=1\/a.at_=2\/a.at_=3\/a.at_=4\/a.at_=5\/a.at_=6\/a.at_=7\/a.at_=8:=by
  cases c with
  |s0 b=>simp[b]
  |s1 b=>simp[b]
  |s2 b=>simp[b]
  |s3 b=>simp[b]
  |s4 b=>simp[b]
  |s5 b=>simp[b]
  |s6 b=>simp[b]
  |s7 b=>simp[b]
  |s8 b=>simp[b]
 omega
theorem DV{e:Nat}{top:Int}{cur:Int×Int}{q:List Int}(c:dW e top cur C ws q a):a.at_<=5:=by
 have f:a.at_=0\/a.at_=1\/a.at_=2\/a.at_=3\/a.at_=4\/a.at_=5:=by
  cases c with
  |s0 b=>simp[b]
  |s1 b=>simp[b]
  |s2 b=>simp[b]
  |s3 b=>simp[b]
  |s4 b=>simp[b]
  |s5 b=>simp[b]
 omega
theorem uF(e:fZ Z d C acts on L P N ws)(f:acts[i]?=some a)(m:a.td=0)(r:a.kn<=2):1<=bC a/\(a.kn=1->bC a<=9)/\(a.kn=2->bC a<=6):=by
 obtain⟨cur,q,n,E,G,D,o⟩:=e.ex;obtain⟨kind,av,A,b,t,B,z,nw,H,K,told,got⟩:=a;simp only at m r;subst m
 by_cases w:kind=0
 ·subst w
  refine⟨?_,λc=>by simp at c,λc=>by simp at c⟩;obtain⟨cur,q,n,l⟩:=sx e f rfl rfl
  cases l with
  |s0 c=>simp only at c;subst c;simp only[bC];omega
  |s1 c=>simp only at c;subst c;simp only[bC];omega
  |s2 c=>simp only at c;subst c;simp only[bC];omega
  |s3 c=>simp only at c;subst c;simp only[bC];omega
  |s10 c=>simp only at c;subst c;simp only[bC];omega
  |s11 c p u v s g k=>simp only at c k;subst c;simp only[bC];omega
  |s12 c p u v s g k F=>simp only at c k;subst c;simp only[bC];omega
  |s13 c=>simp only at c;subst c;simp only[bC];omega
  |s20 c=>simp only at c;subst c;simp only[bC];omega
  |s21 c=>simp only at c;subst c;simp only[bC];omega
 ·by_cases x:kind=1
  ·subst x
   obtain⟨cur,q,n,l⟩:=ug e f rfl rfl;have j:=FF l;simp only at j;refine⟨by simp only[bC];omega,λ_=>by simp only[bC];omega,λc=>by simp at c⟩
  ·have y:kind=2:=by omega
   subst y;have j:=DV (o i _ f rfl rfl);simp only at j;refine⟨by simp only[bC];omega,λc=>by simp at c,λ_=>by simp only[bC];omega⟩
theorem xn(j:fZ Z d C acts on L P N ws)(k:acts[i]?=some a)(p:a.td=0)(y:a.kn<=2)(e:(pstep d C a).what=0):bC (pstep d C a).a+1<=bC a+2*(((pstep d C a).C.length:Int)-C.length):=by
 obtain⟨cur,q,f,K,R,H,u⟩:=j.ex;obtain⟨kind,av,E,b,t,F,o,nw,S,T,told,got⟩:=a;simp only at p y;subst p
 by_cases A:kind=0
 ·subst A
  obtain⟨cur,q,f,m⟩:=sx j k rfl rfl;simp only[pstep] at e ⊢
  cases m with
  |s0 c=>simp only at c;subst c;simp[fH,goes,bC]
  |s1 c=>simp only at c;subst c;simp[fH,goes,bC]
  |s2 c=>simp only at c;subst c;simp[fH,goes,bC]
  |s3 c=>simp only at c;subst c;simp only[fH,goes];split<;>simp[bC]
  |s10 c v n e r w=>
   simp only at c w r;subst c;have G:=(f.lay cur f.curm).1;have s:¬t=b:=by omega
   have z:(fresh o).length=1+(2*o).toNat:=by simp[fresh];omega
   simp only[fH,goes,yb s,bC,yk,z];omega
  |s11 c=>simp only at c;subst c;simp[fH,goes,bC];omega
  |s12 c v n e r g x Q=>
   simp only at c x;subst c;simp only[fH,goes,eQ];split
   ·simp only[bC];omega
   ·simp only[bC];omega
  |s13 c=>simp only at c;subst c;simp[fH,goes,bC,eQ]
  |s20 c=>simp only at c;subst c;simp[fH,goes,bC,eQ]
  |s21 c=>simp only at c;subst c;simp[fH,over] at e
 ·by_cases B:kind=1
  ·subst B
   obtain⟨cur,q,f,m⟩:=ug j k rfl rfl;simp only[pstep] at e ⊢
   cases m with
   |s0 c=>simp only at c;subst c;simp[cL,goes,bC]
   |s1 c=>simp only at c;subst c;simp[cL,goes,bC]
   |s2 c=>simp only at c;subst c;simp[cL,goes,bC,eQ]
   |s3 c=>simp only at c;subst c;simp only[cL,goes];split<;>simp[bC]
   |s4 c=>simp only at c;subst c;simp[cL,over] at e
   |s5 c=>simp only at c;subst c;simp[cL,goes,bC]
   |s6 c=>
    simp only at c;subst c;simp only[cL] at e ⊢;split
    ·rename_i l;rw[yf l] at e;simp[over] at e
    ·simp[goes,bC]
   |s7 c=>simp only at c;subst c;simp only[cL,goes];split<;>simp[bC,eQ]
   |s8 c=>simp only at c;subst c;simp only[cL] at e;split at e<;>simp[over] at e
  ·have D:kind=2:=by omega
   subst D;have n:=u i _ k rfl rfl;simp only[pstep] at e ⊢
   cases n with
   |s0 c=>simp only at c;subst c;simp[bA,goes,bC]
   |s1 c=>
    simp only at c;subst c;simp only[bA] at e ⊢;split
    ·rename_i l;rw[yf l] at e;simp[over] at e
    ·simp[goes,bC]
   |s2 c=>simp only at c;subst c;simp[bA,goes,bC]
   |s3 c=>simp only at c;subst c;simp[bA,goes,bC]
   |s4 c=>simp only at c;subst c;simp[bA,goes,bC]
   |s5 c=>simp only at c;subst c;simp only[bA] at e;split at e<;>simp[over] at e
theorem BL(d:Int)(C:List Int)(a:aC):C.length<=(pstep d C a).C.length:=by
 unfold pstep;split
 ·unfold fH
  split<;>simp[goes,over,eQ]
 ·unfold cL
  split<;>(try split)<;>simp[goes,over,eQ]
 ·unfold bA
  split<;>(try split)<;>simp[goes,over,eQ]
end
theorem pW{C:List Int}{ds:List aT}(e:fI C ds){i:Nat}{x:aT}(g:ds[i]?=some x):0<=x.P/\x.own<=4-2*x.c0+3*x.N:=by
 obtain⟨_,_,_,cur,q,b,_,c,_⟩:=e.each i x g;have f:=c.1;have j:=c.2;have:=b.top0;have:=b.topP;simp only[aT.Z] at f;exact⟨by omega,by omega⟩
end
end Go.Proofs.YtmdocplknceilaaGreat
