import Derived.Test.YtmdocplknceilaaGreatRAL
import Derived.Handy
import Derived.Lib.Hide
import Derived.Maps.AppendAt
import Derived.Deep.AppendLies
import Derived.Deep.Draws
import Derived.Deep.QuietTactic
import Derived.BigQuiet
import Derived.Deep.Slices
import Derived.Deep.Fields
import Derived.ChangeSame
set_option linter.all false
namespace Go.Proofs.YtmdocplknceilaaGreat
section
set_option maxRecDepth 100000
open Go.RowKit
def ae(w:World)(g:Nat)(t:TypeId)(cs:Array Value):Prop:=w.heap[g]?=some (.cells cs t (0,0))
section
variable {w w':World}{g:Nat}{t:TypeId}{cs:Array Value}
theorem ae.lt(b:ae w g t cs):g<w.heap.size:=by
 rcases zO g w.heap.size with d|c
 ·exact d
 ·unfold ae at b;rw[Array.getElem?_eq_none c] at b;cases b
theorem ae.I(b:ae w g t cs)(i:Nat):w.cell? ⟨g,i,none⟩=cs[i]?:=cell_of_row w g i cs t (0,0) b
theorem ae.gE2{w:World}{g:Nat}{t:TypeId}{v0 v1:Value}{z:List Value}(b:ae w g t ⟨v0 :: v1 :: z⟩):w.cell? ⟨g,0,none⟩=some v0/\w.cell? ⟨g,1,none⟩=some v1:=⟨b.I 0,b.I 1⟩
theorem ae.gE3{w:World}{g:Nat}{t:TypeId}{v0 v1 v2:Value}{z:List Value}(b:ae w g t ⟨v0 :: v1 :: v2 :: z⟩):w.cell? ⟨g,0,none⟩=some v0/\w.cell? ⟨g,1,none⟩=some v1/\w.cell? ⟨g,2,none⟩=some v2:=⟨b.I 0,b.I 1,b.I 2⟩
theorem ae.gE4{w:World}{g:Nat}{t:TypeId}{v0 v1 v2 v3:Value}{z:List Value}(b:ae w g t ⟨v0 :: v1 :: v2 :: v3 :: z⟩):w.cell? ⟨g,0,none⟩=some v0/\w.cell? ⟨g,1,none⟩=some v1/\w.cell? ⟨g,2,none⟩=some v2/\w.cell? ⟨g,3,none⟩=some v3:=⟨b.I 0,b.I 1,b.I 2,b.I 3⟩
theorem ae.gE5{w:World}{g:Nat}{t:TypeId}{v0 v1 v2 v3 v4:Value}{z:List Value}(b:ae w g t ⟨v0 :: v1 :: v2 :: v3 :: v4 :: z⟩):w.cell? ⟨g,0,none⟩=some v0/\w.cell? ⟨g,1,none⟩=some v1/\w.cell? ⟨g,2,none⟩=some v2/\w.cell? ⟨g,3,none⟩=some v3/\w.cell? ⟨g,4,none⟩=some v4:=⟨b.I 0,b.I 1,b.I 2,b.I 3,b.I 4⟩
theorem ae.gE7{w:World}{g:Nat}{t:TypeId}{v0 v1 v2 v3 v4 v5 v6:Value}{z:List Value}(b:ae w g t ⟨v0 :: v1 :: v2 :: v3 :: v4 :: v5 :: v6 :: z⟩):w.cell? ⟨g,0,none⟩=some v0/\w.cell? ⟨g,1,none⟩=some v1/\w.cell? ⟨g,2,none⟩=some v2/\w.cell? ⟨g,3,none⟩=some v3/\w.cell? ⟨g,4,none⟩=some v4/\w.cell? ⟨g,5,none⟩=some v5/\w.cell? ⟨g,6,none⟩=some v6:=⟨b.I 0,b.I 1,b.I 2,b.I 3,b.I 4,b.I 5,b.I 6⟩
theorem ae.fz(b:ae w g t cs)(i:Nat):w.frozen? ⟨g,i,none⟩=false:=by
 unfold ae at b;simp[World.frozen?,b]
theorem ae.fE3{w:World}{g:Nat}{t:TypeId}{cs:Array Value}(b:ae w g t cs):w.frozen? ⟨g,0,none⟩=false/\w.frozen? ⟨g,1,none⟩=false/\w.frozen? ⟨g,2,none⟩=false:=⟨b.fz 0,b.fz 1,b.fz 2⟩
theorem ae.fE4{w:World}{g:Nat}{t:TypeId}{cs:Array Value}(b:ae w g t cs):w.frozen? ⟨g,0,none⟩=false/\w.frozen? ⟨g,1,none⟩=false/\w.frozen? ⟨g,2,none⟩=false/\w.frozen? ⟨g,3,none⟩=false:=⟨b.fz 0,b.fz 1,b.fz 2,b.fz 3⟩
theorem ae.fE5{w:World}{g:Nat}{t:TypeId}{cs:Array Value}(b:ae w g t cs):w.frozen? ⟨g,0,none⟩=false/\w.frozen? ⟨g,1,none⟩=false/\w.frozen? ⟨g,2,none⟩=false/\w.frozen? ⟨g,3,none⟩=false/\w.frozen? ⟨g,4,none⟩=false:=⟨b.fz 0,b.fz 1,b.fz 2,b.fz 3,b.fz 4⟩
theorem ae.fE10{w:World}{g:Nat}{t:TypeId}{cs:Array Value}(b:ae w g t cs):w.frozen? ⟨g,0,none⟩=false/\w.frozen? ⟨g,1,none⟩=false/\w.frozen? ⟨g,2,none⟩=false/\w.frozen? ⟨g,3,none⟩=false/\w.frozen? ⟨g,4,none⟩=false/\w.frozen? ⟨g,5,none⟩=false/\w.frozen? ⟨g,6,none⟩=false/\w.frozen? ⟨g,7,none⟩=false/\w.frozen? ⟨g,8,none⟩=false/\w.frozen? ⟨g,9,none⟩=false:=⟨b.fz 0,b.fz 1,b.fz 2,b.fz 3,b.fz 4,b.fz 5,b.fz 6,b.fz 7,b.fz 8,b.fz 9⟩
theorem ae.new(w:World)(t:TypeId)(cs:Array Value):ae (w.alloc (.cells cs t)) w.heap.size t cs:=heap_alloc_new w _
theorem bN{w:World}{t:TypeId}{cs:Array Value}:ae (w.alloc (.cells cs t)) w.heap.size t cs:=ae.new w t cs
theorem ae.drew(b:ae w g t cs):ae w.drew g t cs:=b
theorem ae.drewN(b:ae w g t cs)(n:Nat):ae (w.drewN n) g t cs:=b
theorem ae.alloc(b:ae w g t cs)(o:Obj):ae (w.alloc o) g t cs:=(Below.heap_alloc w o g b.lt).trans b
theorem ae.s_(b:ae w g t cs)(i:Nat)(u:Value):ae (w.setCell ⟨g,i,none⟩ u) g t (cs.setIfInBounds i u):=by
 unfold ae at b ⊢;simp[World.setCell,Array.getElem?_modify,b]
theorem ae.far(b:ae w g t cs){p:Addr}(c:g≠p.block)(u:Value):ae (w.setCell p u) g t cs:=(Below.heap_setCell w p u g c).trans b
theorem ae.grown{c:Option Nat}(b:ae w g t cs)(d:w.grownBy w' c)(e:some g≠c):ae w' g t cs:=(d.block g b.lt e).trans b
theorem ae.ne_{c:Nat}{t':TypeId}{e:Array Value}(d:ae w g t cs)(b:ae w c t' e)(f:t≠t'):g≠c:=by
 rintro rfl;unfold ae at d b;rw[d] at b;injection b with b;injection b with _ ht;exact f ht
theorem aA{base:Nat}{b:TypeId}{size n:Nat}{v:Value}{xs:List Value}(d:w.ownsRow base b size v n xs)(f:ae w g t cs)(j:b≠t):v.ownBlock≠some g:=by
 rcases d.2 with⟨rfl,_⟩|⟨c,k,cur,rfl,_,i,_⟩
 ·simp[Value.ownBlock]
 ·intro e
  have:c=g:=by simpa[Value.ownBlock] using e
  subst this;exact ae.ne_ (t:=b) i f j rfl
end
structure aa(S:Nat->Prop)(w w':World):Prop where
 os:w'.os=w.os
 tape:w'.tape=w.tape
 output:w'.output=w.output
 size:w.heap.size<=w'.heap.size
 block:∀k,k<w.heap.size->¬S k->w'.heap[k]?=w.heap[k]?
section
variable {S T:Nat->Prop}{a w w':World}
theorem aa.refl(S:Nat->Prop)(w:World):aa S w w:=⟨rfl,rfl,rfl,lR,λ_ _ _=>rfl⟩
theorem oR{S:Nat->Prop}{w:World}:aa S w w:=aa.refl S w
theorem aa.trans{b c:World}(d:aa S a b)(k:aa S b c):aa S a c:=
 ⟨k.os.trans d.os,k.tape.trans d.tape,k.output.trans d.output,lT d.size k.size,λi e f=>(k.block i (lL e d.size) f).trans (d.block i e f)⟩
theorem aa.trans'{b c:World}(d:aa S a b)(k:aa T b c)(l:∀i,T i->S i\/a.heap.size<=i):aa S a c:=
 ⟨k.os.trans d.os,k.tape.trans d.tape,k.output.trans d.output,lT d.size k.size,λi f j=>(k.block i (lL f d.size) (λm=>by rcases l i m with e|e;exact j e;omega)).trans (d.block i f j)⟩
theorem aa.mono(b:aa S w w')(e:∀i,S i->T i):aa T w w':=⟨b.os,b.tape,b.output,b.size,λi d f=>b.block i d (λc=>f (e i c))⟩
theorem aa.drew(b:aa S a w):aa S a w.drew:=⟨b.os,b.tape,b.output,b.size,b.block⟩
theorem aa.drewN(b:aa S a w)(n:Nat):aa S a (w.drewN n):=⟨b.os,b.tape,b.output,b.size,b.block⟩
theorem aa.alloc(b:aa S a w)(o:Obj):aa S a (w.alloc o):=
 ⟨b.os,b.tape,b.output,lT b.size (by simp),λi c d=>(Below.heap_alloc w o i (lL c b.size)).trans (b.block i c d)⟩
theorem aa.setCell(b:aa S a w){p:Addr}(c:S p.block\/a.heap.size<=p.block)(u:Value):aa S a (w.setCell p u):=
 ⟨b.os,b.tape,b.output,by simpa[World.setCell] using b.size,λi e d=>(Below.heap_setCell w p u i (by
  rintro rfl
  rcases c with c|c
  ·exact d c
  ·omega)).trans (b.block i e d)⟩
theorem aa.grown(b:aa S a w){j:Option Nat}(c:w.grownBy w' j)(m:∀k,j=some k->S k\/a.heap.size<=k):aa S a w':=
 ⟨c.os.trans b.os,c.tape.trans b.tape,c.output.trans b.output,lT b.size c.size,λi e f=>(c.block i (lL e b.size) (λl=>by
  rcases m i l.symm with d|d
  ·exact f d
  ·omega)).trans (b.block i e f)⟩
theorem aa.below_(b:Below a.heap.size a w):aa S a w:=⟨b.os,b.tape,b.output,b.size,λi c _=>b.block i c⟩
theorem aa.below{B:Nat}(b:aa S w w')(c:∀i,S i->B<=i)(e:B<=w.heap.size):Below B w w':=
 ⟨b.os,b.tape,b.output,b.size,λk f=>b.block k (by omega) (λd=>by have:=c k d;omega)⟩
theorem aa.J{g:Nat}{t:TypeId}{cs:Array Value}(c:aa S w w')(b:ae w g t cs)(d:¬S g):ae w' g t cs:=(c.block g b.lt d).trans b
theorem aa.owns{base:Nat}{b:TypeId}{size n:Nat}{v:Value}{xs:List Value}(f:aa S w w')(d:w.ownsRow base b size v n xs)(hv:∀k,v.ownBlock=some k->¬S k):w'.ownsRow base b size v n xs:=by
 refine⟨d.1,?_⟩
 rcases d.2 with j|⟨g,e,cur,rfl,i,c,l⟩
 ·exact .inl j
 ·refine .inr ⟨g,e,cur,rfl,i,?_,l⟩
  rw[f.block g (yu.1 c).1 (hv g rfl)];exact c
theorem aa.I{p:Addr}(b:aa S w w')(c:p.block<w.heap.size)(d:¬S p.block):w'.cell? p=w.cell? p:=World.cell?_of_block (b.block p.block c d)
end
theorem di{w:World}{base:Nat}{c:TypeId}{size n:Nat}{v:Value}{xs:List Value}(d:w.ownsRow base c size v n xs):
 (v=.slice none 0 0/\n=0)\/∃g b,v=.slice (some ⟨g,0,none⟩) n b/\n<=b/\b<=maxLen/\base<=g/\g<w.heap.size:=by
 rcases d.2 with e|⟨g,b,cur,f,i,j,k,l,_⟩
 ·exact .inl e
 ·exact .inr ⟨g,b,f,k,l,i,(yu.1 j).1⟩
theorem lS(a:Addr)(n:Nat):(a.add n).block=a.block:=by unfold Addr.add;split<;>rfl
def bP(w:World)(B size:Nat)(A:Option Addr)(n:Nat)(xs:List Value):Prop:=
 xs.length=n*size/\(0<n->∃ad,A=some ad/\ad.block<B/\∀j u,xs[j]?=some u->w.cell? (ad.add j)=some u)
section
variable {w w':World}{B B' size n:Nat}{A:Option Addr}{xs:List Value}
theorem bP.none_:bP w B size A 0 []:=⟨by simp,λb=>absurd b (by omega)⟩
theorem bP.kp(b:bP w B size A n xs)(i:∀p:Addr,p.block<B->w'.cell? p=w.cell? p):bP w' B size A n xs:=
 ⟨b.1,λk=>by
   obtain⟨d,e,c,f⟩:=b.2 k;exact⟨d,e,c,λj u l=>(i _ (by rw[lS];exact c)).trans (f j u l)⟩⟩
theorem bP.alloc(b:bP w B size A n xs)(c:B<=w.heap.size)(o:Obj):bP (w.alloc o) B size A n xs:=b.kp λp d=>World.cell?_alloc_lt w o p (by omega)
theorem bP.of_own{base:Nat}{d:TypeId}{c:Nat}(b:w.ownsRow base d size (.slice A n c) n xs):bP w w.heap.size size A n xs:=by
 refine⟨b.1,λi=>?_⟩;obtain⟨g,j,hv,_,f⟩:=b.form i;have e:A=some ⟨g,0,none⟩:=by injection hv
 subst e;exact⟨_,rfl,f,b.cells (g:=g) rfl⟩
end
section
variable {P:Program}(w:World)
theorem pJ(base:Nat)(t k b:TypeId)(i:TypeInfo)(size:Nat)(e:P.underlying t=some (.slice b))(d:P.info? b=some i)
 (v:Value) (n:Nat) (xs:List Value) (j:w.ownsRow base b size v n xs) (c:Nat):(Builtin.append_ #[t,t] k #[v,.slice none 0 c]).run P w=.ok v w:=by
 rcases j.2 with⟨rfl,rfl⟩|⟨g,l,cur,rfl,_,_,f,_⟩
 ·simp[Builtin.append_,run_underlying e,sizeOf,typeInfo,d,Builtin.lenOf,Builtin.firstCells]
 ·simp[Builtin.append_,run_underlying e,sizeOf,typeInfo,d,Builtin.lenOf,Builtin.firstCells,f,storeCells]
theorem mR(base:Nat)(t s f:TypeId)(i:TypeInfo)(z:Value)(size p:Nat)(y:P.underlying t=some (.slice f))(x:P.info? f=some i)(a0:i.zero=some z)
 (Y:i.size=size) (N:i.bytes=p) (a1:z.cells.size=size) (Z:0<size)
 (v:Value) (n:Nat) (xs:List Value) (r:w.ownsRow base f size v n xs)
 (B:Nat) (A:Option Addr) (b c:Nat) (e:List Value) (m:bP w B size A b e) (D:∀u∈e,u.oneCell'=true)
 (K:n+b<=maxLen) (Q:(n+b)*p<=140737488355328) (L:base<=w.heap.size):
 ∃k w',(Builtin.append_ #[t,t] s #[v,.slice A b c]).run P w=.ok k w'/\w'.ownsRow base f size k (n+b) (xs++e)/\w.grownBy w' v.ownBlock/\
  (k.ownBlock=v.ownBlock\/k.ownBlock=some w.heap.size):=by
 rcases A with _|o
 ·have W:b=0:=by
   rcases Nat.eq_zero_or_pos b with d|d
   ·exact d
   ·obtain⟨o,l,_⟩:=m.2 d
    cases l
  subst W;have q:e= []:=yr (by simpa using m.1);subst q;exact⟨v,w,pJ w base t s f i size y x v n xs r c,by simpa using r,World.grownBy.refl w _,.inl rfl⟩
 ·have V:∀j u,e[j]?=some u->w.cell? (o.add j)=some u:=by
   intro j u C
   rcases Nat.eq_zero_or_pos b with d|d
   ·subst d
    have q:e= []:=yr (by simpa using m.1);subst q;simp at C
   ·obtain⟨a2,l,_,R⟩:=m.2 d
    injection l with l;subst l;exact R j u C
  obtain⟨k,w',X,E,F,_,G⟩:=run_append_own_at (P:=P) w base t s f i z size p y x a0 Y N a1 Z v n xs r o b c e m.1 V D K Q L;exact⟨k,w',X,E,F,G⟩
theorem iR{o:Oper}{a:Act}{k:Act->World->Prop}{Q:Exit->Act->World->Prop}(s x:Operand)(t:TypeId)
 (G:o.op=.call {callee:=.builtin .append,args:=#[s,x],argTypes:=#[t,t]})
 (base:Nat) (e:TypeId) (i:TypeInfo) (z:Value) (size j:Nat) (X:P.underlying t=some (.slice e)) (F:P.info? e=some i) (Z:i.zero=some z)
 (V:i.size=size) (D:i.bytes=j) (a0:z.cells.size=size) (W:0<size)
 (v:Value) (n:Nat) (xs:List Value) (R:a.eval s=v) (K:w.ownsRow base e size v n xs)
 (B:Nat) (A:Option Addr) (b c:Nat) (f:List Value) (Y:a.eval x=.slice A b c) (L:bP w B size A b f) (m:∀u∈f,u.oneCell'=true)
 (y:n+b<=maxLen) (E:(n+b)*j<=140737488355328) (C:base<=w.heap.size)
 (l:∀d w',w'.ownsRow base e size d (n+b) (xs++f)->w.grownBy w' v.ownBlock->(d.ownBlock=v.ownBlock\/d.ownBlock=some w.heap.size)->k (a.put o.dst d) w'):o.wp P a w k Q:=by
 obtain⟨d,w',N,p,q,r⟩:=mR (P:=P) w base t o.type e i z size j X F Z V D a0 W v n xs K B A b c f L m y E C;unfold Oper.wp execOp;simp only[G,resolve,invoke,builtin,Sem.run_bind,Sem.run_pure,Result.andThen_ok,List.map_toArray,zc,Yk,R,Y,N];exact l d w' p q r
theorem fX{k:Array Oper}{l:List Oper}{o:Oper}{a:Act}{Q:Exit->Act->World->Prop}(K:o.guard=none)(s x:Operand)(t:TypeId)
 (N:o.op=.call {callee:=.builtin .append,args:=#[s,x],argTypes:=#[t,t]})
 (base:Nat) (e:TypeId) (i:TypeInfo) (z:Value) (size j:Nat) (Z:P.underlying t=some (.slice e)) (L:P.info? e=some i) (a1:i.zero=some z)
 (X:i.size=size) (F:i.bytes=j) (a2:z.cells.size=size) (Y:0<size)
 (v:Value) (n:Nat) (xs:List Value) (W:a.eval s=v) (R:w.ownsRow base e size v n xs)
 (B:Nat) (A:Option Addr) (b c:Nat) (f:List Value) (a0:a.eval x=.slice A b c) (V:bP w B size A b f) (p:∀u∈f,u.oneCell'=true)
 (C:n+b<=maxLen) (G:(n+b)*j<=140737488355328) (E:base<=w.heap.size)
 (m:∀d w',w'.ownsRow base e size d (n+b) (xs++f)->w.grownBy w' v.ownBlock->(d.ownBlock=v.ownBlock\/d.ownBlock=some w.heap.size)->wpList P k Q l (a.put o.dst d) w'):wpList P k Q (o :: l) a w:=
 wpList_plain K λ_ D=>iR w s x t N base e i z size j Z L a1 X F a2 Y v n xs W R B A b c f a0 V p C G E λd w' q r y=>D _ _ (m d w' q r y)
theorem gZ{l:Array Oper}{o:Oper}{a:Act}{k:Act->World->Prop}{Q:Exit->Act->World->Prop}{m:Prop}(E:o.guard=none)(s x:Operand)(t:TypeId)
 (G:o.op=.call {callee:=.builtin .append,args:=#[s,x],argTypes:=#[t,t]})
 (base:Nat) (d:TypeId) (i:TypeInfo) (z:Value) (size j:Nat) (W:P.underlying t=some (.slice d)) (F:P.info? d=some i) (Z:i.zero=some z)
 (R:i.size=size) (C:i.bytes=j) (a0:z.cells.size=size) (V:0<size)
 (v:Value) (n:Nat) (xs:List Value) (N:a.eval s=v) (K:w.ownsRow base d size v n xs)
 (B:Nat) (A:Option Addr) (b c:Nat) (e:List Value) (Y:a.eval x=.slice A b c) (L:bP w B size A b e) (q:∀u∈e,u.oneCell'=true)
 (r:n+b<=maxLen) (D:(n+b)*j<=140737488355328) (y:base<=w.heap.size)
 (p:∀f w',w'.ownsRow base d size f (n+b) (xs++e)->w.grownBy w' v.ownBlock->(f.ownBlock=v.ownBlock\/f.ownBlock=some w.heap.size)->k (a.put o.dst f) w'):
 if Region.wanted o (yielded l a.tmps)=true then Oper.wp P o a w k Q else m:=by
 have X:Region.wanted o (yielded l a.tmps)=true:=by simp[Region.wanted,E]
 rw[yf X];exact iR w s x t G base d i z size j W F Z R C a0 V v n xs N K B A b c e Y L q r D y p
end
theorem xr{w:World}{B:Nat}{a:Addr}{n:Nat}{xs:List Int}(c:xs.length=n)(e:a.block<B)(d:∀j,j<n->w.cell? (a.add j)=some (.int .i64 (xs.getD j 0))):bP w B 1 (some a) n (xs.map (.int .i64)):=by
 refine⟨by simp[c],λ_=>⟨a,rfl,e,λj u b=>?_⟩⟩;have f:j<n:=by have:=(gS b).1;simpa[c] using this
 rw[d j f];rw[yJ,gG (by omega)] at b
 simpa[List.getD,gG (show j<xs.length by omega)] using b
theorem li{P:Program}(t b:TypeId)(i:TypeInfo)(z:Value)(m:P.underlying t=some (.slice b))(l:P.info? b=some i)(o:i.zero=some z)
 (f e:IntKind) (n c:Nat) (r:n<=c) (q:i.bytes*c<=281474976710656) (p:c<=9223372036854775807) (w:World):
 (Instr.makeSlice t (.int f (n:Int)) (.int e (c:Int))).run P w=.ok (.slice (some ⟨w.heap.size,0,none⟩) n c) (w.alloc (.cells (madeCells z.cells (c*i.size)) b)):=by
 have k:(i.bytes:Int)*(c:Int)<=281474976710656:=by
  have j:((i.bytes*c:Nat):Int)<=281474976710656:=by omega
  rwa [Int.natCast_mul] at j
 have d:=run_make (P:=P) w t b i z m l o f e n c (by omega) (by omega) k (by omega);simp only[yo] at d;exact d
theorem cF{fn:Func}{t u v x:Tmp}(c:fn.results= #[.tmp t,.tmp u,.tmp v,.tmp x])(b:Array Value)(P:Program)(w:World):
 (results fn b).run P w=.ok (.tuple #[b.getD t undef,b.getD u undef,b.getD v undef,b.getD x undef]) w:=by simp[results,c]
theorem tY{k:IntKind}{xs:List Int}:∀u∈xs.map (Value.int k),u.oneCell'=true:=by
 intro u b;obtain⟨x,_,rfl⟩:=yL.1 b;rfl
section
open Go.ChangeShapes Go.WideShapes Go.Deep
section
variable {H:Type}{enc:TypeId×Value->H}{P:Program}{w:World}{base:Nat}{spare:Nat->Bool}{held:Bool}
theorem fW{t p:TypeId}{b:Array Field}{E:Nat}{cs:List Value}{x:DataW H×List MemPlace}(a6:P.underlying t=some (.slice p))(R:P.underlying p=some (.struct b))
 (a4:oneCellFields P b=true) (u:P.cellsOf p=b.size) (F:DataW.trod enc P w base spare held E t cs=some x):
 (cs= [.slice none 0 0]/\x=(.nil,[]))\/
 ∃(a:Addr) (c k e:Nat) (l:Nat->DataW H) (m:Nat->List MemPlace),cs= [.slice (some a) c k]/\base<=a.block/\c<=k/\k<=maxLen/\e=(if spare a.block then k else c)/\
  x=(.slice ((List.range c).map l) ((List.range (e-c)).map λj=>l (c+j)),MemPlace.row a (e*b.size)++(List.range e).flatMap m)/\
  ∀i,i<e->∃(d:List (DataW H×List MemPlace)) (n:Nat),l i=.agg (d.map (·.1))/\m i=d.flatMap (·.2)/\d.length=b.size/\
   ∀(j:Nat) (f:Field),b[j]?=some f->∃(v:Value) (y:DataW H×List MemPlace),w.cell? (a.add (i*b.size+j))=some v/\d[j]?=some y/\DataW.trod enc P w base spare held n f.type [v] =some y:=by
 rcases open_slice a6 F with G|⟨a,c,k,e,n,l,m,Q,L,a0,a1,a2,C,W⟩
 ·exact .inl G
 ·refine .inr ⟨a,c,k,e,l,m,Q,L,a0,a1,a2,by rw[u] at C;exact C,λi X=>?_⟩
  obtain⟨o,z,a7⟩:=W i X;rw[u] at z;obtain⟨d,n',ad,s,ab,a8,V⟩:=DataW.trod_struct R a7;obtain⟨_,a9,K⟩:=World.cells?_some z;simp only[yP] at s;refine⟨d,n',s.1,s.2,a8,λj f r=>?_⟩;obtain⟨a3,Z⟩:=hone_of a4 j f r;have Y:j<b.size:=(yu.1 r).1;have N:=K j Y;have hv:o[j]?=some (o[j]'(by omega)):=gG (by omega);have q:=V j f r;rw[a3,Z] at q
  have a5:(o.drop j).take 1= [o[j]'(by omega)]:=by
   rw[yM (by omega)];rfl
  rw[a5] at q;have D:d[j]?=some (d[j]'(by omega)):=gG (by omega);refine⟨_,_,?_,D,q.trans D⟩;rw[<-Go.Deep.add_add,N,hv]
end
end
end
end Go.Proofs.YtmdocplknceilaaGreat
