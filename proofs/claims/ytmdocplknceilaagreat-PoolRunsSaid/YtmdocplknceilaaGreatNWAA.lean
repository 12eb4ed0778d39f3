import Derived.Test.YtmdocplknceilaaGreatNAL
import Derived.Handy
import Derived.Lib.Hide
import Derived.Maps.AppendAt
import Derived.Deep.AppendLies
import Derived.Deep.Draws
import Derived.Deep.QuietTactic
import Derived.BigQuiet
import Derived.Deep.Slices
import Derived.Deep.Fields
import Derived.ChangeSame
import Derived.RegionTactic
import Derived.WalkKit
import Derived.Deep.WholeRow
import Derived.Deep.MidRow
import Derived.WalkSpells
set_option linter.all false
namespace Go.Proofs.YtmdocplknceilaaGreat
theorem _root_.Go.RowKit.Below.I{B:Nat}{w b:World}(c:Go.RowKit.Below B w b){p:Addr}(d:p.block<B):b.cell? p=w.cell? p:=Go.World.cell?_of_block (w:=w) (c.block p.block d)
section
set_option maxRecDepth 100000
open Go.RowKit
def ae(w:World)(g:Nat)(t:TypeId)(cs:Array Value):Prop:=w.heap[g]?=some (.cells cs t (0,0))
section
variable {w w':World}{g:Nat}{t:TypeId}{cs:Array Value}
theorem ae.lt(b:ae w g t cs):g<w.heap.size:=by
 rcases zO g w.heap.size with d|c
 ·exact d
 ·unfold ae at b;rw[Array.getElem?_eq_none c] at b;cases b
theorem ae.I(b:ae w g t cs)(i:Nat):w.cell? ⟨g,i,none⟩=cs[i]?:=cell_of_row w g i cs t (0,0) b
theorem ae.gE2{w:World}{g:Nat}{t:TypeId}{v0 v1:Value}{z:List Value}(b:ae w g t ⟨v0 :: v1 :: z⟩):w.cell? ⟨g,0,none⟩=some v0/\w.cell? ⟨g,1,none⟩=some v1:=⟨b.I 0,b.I 1⟩
theorem ae.gE3{w:World}{g:Nat}{t:TypeId}{v0 v1 v2:Value}{z:List Value}(b:ae w g t ⟨v0 :: v1 :: v2 :: z⟩):w.cell? ⟨g,0,none⟩=some v0/\w.cell? ⟨g,1,none⟩=some v1/\w.cell? ⟨g,2,none⟩=some v2:=⟨b.I 0,b.I 1,b.I 2⟩
theorem ae.gE4{w:World}{g:Nat}{t:TypeId}{v0 v1 v2 v3:Value}{z:List Value}(b:ae w g t ⟨v0 :: v1 :: v2 :: v3 :: z⟩):w.cell? ⟨g,0,none⟩=some v0/\w.cell? ⟨g,1,none⟩=some v1/\w.cell? ⟨g,2,none⟩=some v2/\w.cell? ⟨g,3,none⟩=some v3:=⟨b.I 0,b.I 1,b.I 2,b.I 3⟩
theorem ae.gE5{w:World}{g:Nat}{t:TypeId}{v0 v1 v2 v3 v4:Value}{z:List Value}(b:ae w g t ⟨v0 :: v1 :: v2 :: v3 :: v4 :: z⟩):w.cell? ⟨g,0,none⟩=some v0/\w.cell? ⟨g,1,none⟩=some v1/\w.cell? ⟨g,2,none⟩=some v2/\w.cell? ⟨g,3,none⟩=some v3/\w.cell? ⟨g,4,none⟩=some v4:=⟨b.I 0,b.I 1,b.I 2,b.I 3,b.I 4⟩
theorem ae.gE7{w:World}{g:Nat}{t:TypeId}{v0 v1 v2 v3 v4 v5 v6:Value}{z:List Value}(b:ae w g t ⟨v0 :: v1 :: v2 :: v3 :: v4 :: v5 :: v6 :: z⟩):w.cell? ⟨g,0,none⟩=some v0/\w.cell? ⟨g,1,none⟩=some v1/\w.cell? ⟨g,2,none⟩=some v2/\w.cell? ⟨g,3,none⟩=some v3/\w.cell? ⟨g,4,none⟩=some v4/\w.cell? ⟨g,5,none⟩=some v5/\w.cell? ⟨g,6,none⟩=some v6:=⟨b.I 0,b.I 1,b.I 2,b.I 3,b.I 4,b.I 5,b.I 6⟩
theorem ae.fz(b:ae w g t cs)(i:Nat):w.frozen? ⟨g,i,none⟩=false:=by
 unfold ae at b;simp[World.frozen?,b]
theorem ae.new(w:World)(t:TypeId)(cs:Array Value):ae (w.alloc (.cells cs t)) w.heap.size t cs:=heap_alloc_new w _
theorem bN{w:World}{t:TypeId}{cs:Array Value}:ae (w.alloc (.cells cs t)) w.heap.size t cs:=ae.new w t cs
theorem ae.drew(b:ae w g t cs):ae w.drew g t cs:=b
theorem ae.drewN(b:ae w g t cs)(n:Nat):ae (w.drewN n) g t cs:=b
theorem ae.alloc(b:ae w g t cs)(o:Obj):ae (w.alloc o) g t cs:=(Below.heap_alloc w o g b.lt).trans b
theorem ae.s_(b:ae w g t cs)(i:Nat)(u:Value):ae (w.setCell ⟨g,i,none⟩ u) g t (cs.setIfInBounds i u):=by
 unfold ae at b ⊢;simp[World.setCell,Array.getElem?_modify,b]
theorem ae.far(b:ae w g t cs){p:Addr}(c:g≠p.block)(u:Value):ae (w.setCell p u) g t cs:=(Below.heap_setCell w p u g c).trans b
theorem ae.grown{c:Option Nat}(b:ae w g t cs)(d:w.grownBy w' c)(e:some g≠c):ae w' g t cs:=(d.block g b.lt e).trans b
theorem ae.ne_{c:Nat}{t':TypeId}{e:Array Value}(d:ae w g t cs)(b:ae w c t' e)(f:t≠t'):g≠c:=by
 rintro rfl;unfold ae at d b;rw[d] at b;injection b with b;injection b with _ ht;exact f ht
theorem aB{base:Nat}{b:TypeId}{size n:Nat}{v:Value}{xs:List Value}(d:w.ownsRow base b size v n xs)(f:ae w g t cs)(j:b≠t):v.ownBlock≠some g:=by
 rcases d.2 with⟨rfl,_⟩|⟨c,k,cur,rfl,_,i,_⟩
 ·simp[Value.ownBlock]
 ·intro e
  have:c=g:=by simpa[Value.ownBlock] using e
  subst this;exact ae.ne_ (t:=b) i f j rfl
end
structure aa(S:Nat->Prop)(w w':World):Prop where
 os:w'.os=w.os
 tape:w'.tape=w.tape
 output:w'.output=w.output
 size:w.heap.size<=w'.heap.size
 block:∀k,k<w.heap.size->¬S k->w'.heap[k]?=w.heap[k]?
section
variable {S T:Nat->Prop}{a w w':World}
theorem aa.refl(S:Nat->Prop)(w:World):aa S w w:=⟨rfl,rfl,rfl,lR,λ_ _ _=>rfl⟩
theorem oR{S:Nat->Prop}{w:World}:aa S w w:=aa.refl S w
theorem aa.trans{b c:World}(d:aa S a b)(k:aa S b c):aa S a c:=
 ⟨k.os.trans d.os,k.tape.trans d.tape,k.output.trans d.output,lT d.size k.size,λi e f=>(k.block i (lL e d.size) f).trans (d.block i e f)⟩
theorem aa.trans'{b c:World}(d:aa S a b)(k:aa T b c)(l:∀i,T i->S i\/a.heap.size<=i):aa S a c:=
 ⟨k.os.trans d.os,k.tape.trans d.tape,k.output.trans d.output,lT d.size k.size,λi f j=>(k.block i (lL f d.size) (λm=>by rcases l i m with e|e;exact j e;omega)).trans (d.block i f j)⟩
theorem aa.mono(b:aa S w w')(e:∀i,S i->T i):aa T w w':=⟨b.os,b.tape,b.output,b.size,λi d f=>b.block i d (λc=>f (e i c))⟩
theorem aa.drew(b:aa S a w):aa S a w.drew:=⟨b.os,b.tape,b.output,b.size,b.block⟩
theorem aa.drewN(b:aa S a w)(n:Nat):aa S a (w.drewN n):=⟨b.os,b.tape,b.output,b.size,b.block⟩
theorem aa.alloc(b:aa S a w)(o:Obj):aa S a (w.alloc o):=
 ⟨b.os,b.tape,b.output,lT b.size (by simp),λi c d=>(Below.heap_alloc w o i (lL c b.size)).trans (b.block i c d)⟩
theorem aa.setCell(b:aa S a w){p:Addr}(c:S p.block\/a.heap.size<=p.block)(u:Value):aa S a (w.setCell p u):=
 ⟨b.os,b.tape,b.output,by simpa[World.setCell] using b.size,λi e d=>(Below.heap_setCell w p u i (by
  rintro rfl
  rcases c with c|c
  ·exact d c
  ·omega)).trans (b.block i e d)⟩
theorem aa.grown(b:aa S a w){j:Option Nat}(c:w.grownBy w' j)(m:∀k,j=some k->S k\/a.heap.size<=k):aa S a w':=
 ⟨c.os.trans b.os,c.tape.trans b.tape,c.output.trans b.output,lT b.size c.size,λi e f=>(c.block i (lL e b.size) (λl=>by
  rcases m i l.symm with d|d
  ·exact f d
  ·omega)).trans (b.block i e f)⟩
theorem aa.below_(b:Below a.heap.size a w):aa S a w:=⟨b.os,b.tape,b.output,b.size,λi c _=>b.block i c⟩
theorem aa.below{B:Nat}(b:aa S w w')(c:∀i,S i->B<=i)(e:B<=w.heap.size):Below B w w':=
 ⟨b.os,b.tape,b.output,b.size,λk f=>b.block k (by omega) (λd=>by have:=c k d;omega)⟩
theorem aa.J{g:Nat}{t:TypeId}{cs:Array Value}(c:aa S w w')(b:ae w g t cs)(d:¬S g):ae w' g t cs:=(c.block g b.lt d).trans b
theorem aa.owns{base:Nat}{b:TypeId}{size n:Nat}{v:Value}{xs:List Value}(f:aa S w w')(d:w.ownsRow base b size v n xs)(hv:∀k,v.ownBlock=some k->¬S k):w'.ownsRow base b size v n xs:=by
 refine⟨d.1,?_⟩
 rcases d.2 with j|⟨g,e,cur,rfl,i,c,l⟩
 ·exact .inl j
 ·refine .inr ⟨g,e,cur,rfl,i,?_,l⟩
  rw[f.block g (yu.1 c).1 (hv g rfl)];exact c
theorem aa.I{p:Addr}(b:aa S w w')(c:p.block<w.heap.size)(d:¬S p.block):w'.cell? p=w.cell? p:=World.cell?_of_block (b.block p.block c d)
end
theorem dj{w:World}{base:Nat}{c:TypeId}{size n:Nat}{v:Value}{xs:List Value}(d:w.ownsRow base c size v n xs):
 (v=.slice none 0 0/\n=0)\/∃g b,v=.slice (some ⟨g,0,none⟩) n b/\n<=b/\b<=maxLen/\base<=g/\g<w.heap.size:=by
 rcases d.2 with e|⟨g,b,cur,f,i,j,k,l,_⟩
 ·exact .inl e
 ·exact .inr ⟨g,b,f,k,l,i,(yu.1 j).1⟩
theorem lN(a:Addr)(n:Nat):(a.add n).block=a.block:=by unfold Addr.add;split<;>rfl
def cO(w:World)(B size:Nat)(A:Option Addr)(n:Nat)(xs:List Value):Prop:=
 xs.length=n*size/\(0<n->∃ad,A=some ad/\ad.block<B/\∀j u,xs[j]?=some u->w.cell? (ad.add j)=some u)
section
variable {w w':World}{B B' size n:Nat}{A:Option Addr}{xs:List Value}
theorem cO.none_:cO w B size A 0 []:=⟨by simp,λb=>absurd b (by omega)⟩
theorem cO.kp(b:cO w B size A n xs)(i:∀p:Addr,p.block<B->w'.cell? p=w.cell? p):cO w' B size A n xs:=
 ⟨b.1,λk=>by
   obtain⟨d,e,c,f⟩:=b.2 k;exact⟨d,e,c,λj u l=>(i _ (by rw[lN];exact c)).trans (f j u l)⟩⟩
theorem cO.alloc(b:cO w B size A n xs)(c:B<=w.heap.size)(o:Obj):cO (w.alloc o) B size A n xs:=b.kp λp d=>World.cell?_alloc_lt w o p (by omega)
theorem cO.of_own{base:Nat}{d:TypeId}{c:Nat}(b:w.ownsRow base d size (.slice A n c) n xs):cO w w.heap.size size A n xs:=by
 refine⟨b.1,λi=>?_⟩;obtain⟨g,j,hv,_,f⟩:=b.form i;have e:A=some ⟨g,0,none⟩:=by injection hv
 subst e;exact⟨_,rfl,f,b.cells (g:=g) rfl⟩
end
section
variable {P:Program}(w:World)
theorem pw(base:Nat)(t k b:TypeId)(i:TypeInfo)(size:Nat)(e:P.underlying t=some (.slice b))(d:P.info? b=some i)
 (v:Value) (n:Nat) (xs:List Value) (j:w.ownsRow base b size v n xs) (c:Nat):(Builtin.append_ #[t,t] k #[v,.slice none 0 c]).run P w=.ok v w:=by
 rcases j.2 with⟨rfl,rfl⟩|⟨g,l,cur,rfl,_,_,f,_⟩
 ·simp[Builtin.append_,run_underlying e,sizeOf,typeInfo,d,Builtin.lenOf,Builtin.firstCells]
 ·simp[Builtin.append_,run_underlying e,sizeOf,typeInfo,d,Builtin.lenOf,Builtin.firstCells,f,storeCells]
theorem mJ(base:Nat)(t s f:TypeId)(i:TypeInfo)(z:Value)(size p:Nat)(C:P.underlying t=some (.slice f))(x:P.info? f=some i)(a5:i.zero=some z)
 (a3:i.size=size) (X:i.bytes=p) (a6:z.cells.size=size) (a4:0<size)
 (v:Value) (n:Nat) (xs:List Value) (r:w.ownsRow base f size v n xs)
 (B:Nat) (A:Option Addr) (b c:Nat) (e:List Value) (m:cO w B size A b e) (E:∀u∈e,u.oneCell'=true)
 (L:n+b<=maxLen) (Y:(n+b)*p<=140737488355328) (N:base<=w.heap.size):
 ∃k w',(Builtin.append_ #[t,t] s #[v,.slice A b c]).run P w=.ok k w'/\w'.ownsRow base f size k (n+b) (xs++e)/\w.grownBy w' v.ownBlock/\
  (k.ownBlock=v.ownBlock\/k.ownBlock=some w.heap.size):=by
 rcases A with _|o
 ·have a1:b=0:=by
   rcases Nat.eq_zero_or_pos b with d|d
   ·exact d
   ·obtain⟨o,l,_⟩:=m.2 d
    cases l
  subst a1;have q:e= []:=yr (by simpa using m.1);subst q;exact⟨v,w,pw w base t s f i size C x v n xs r c,by simpa using r,World.grownBy.refl w _,.inl rfl⟩
 ·have a0:∀j u,e[j]?=some u->w.cell? (o.add j)=some u:=by
   intro j u D
   rcases Nat.eq_zero_or_pos b with d|d
   ·subst d
    have q:e= []:=yr (by simpa using m.1);subst q;simp at D
   ·obtain⟨a7,l,_,Z⟩:=m.2 d
    injection l with l;subst l;exact Z j u D
  obtain⟨k,w',a2,F,G,_,K⟩:=run_append_own_at (P:=P) w base t s f i z size p C x a5 a3 X a6 a4 v n xs r o b c e m.1 a0 E L Y N;exact⟨k,w',a2,F,G,K⟩
theorem iK{o:Oper}{a:Act}{k:Act->World->Prop}{Q:Exit->Act->World->Prop}(s x:Operand)(t:TypeId)
 (K:o.op=.call {callee:=.builtin .append,args:=#[s,x],argTypes:=#[t,t]})
 (base:Nat) (e:TypeId) (i:TypeInfo) (z:Value) (size j:Nat) (a1:P.underlying t=some (.slice e)) (G:P.info? e=some i) (a3:i.zero=some z)
 (Z:i.size=size) (E:i.bytes=j) (a4:z.cells.size=size) (a0:0<size)
 (v:Value) (n:Nat) (xs:List Value) (Y:a.eval s=v) (L:w.ownsRow base e size v n xs)
 (B:Nat) (A:Option Addr) (b c:Nat) (f:List Value) (a2:a.eval x=.slice A b c) (N:cO w B size A b f) (m:∀u∈f,u.oneCell'=true)
 (C:n+b<=maxLen) (F:(n+b)*j<=140737488355328) (D:base<=w.heap.size)
 (l:∀d w',w'.ownsRow base e size d (n+b) (xs++f)->w.grownBy w' v.ownBlock->(d.ownBlock=v.ownBlock\/d.ownBlock=some w.heap.size)->k (a.put o.dst d) w'):o.wp P a w k Q:=by
 obtain⟨d,w',X,p,q,r⟩:=mJ (P:=P) w base t o.type e i z size j a1 G a3 Z E a4 a0 v n xs L B A b c f N m C F D;unfold Oper.wp execOp;simp only[K,resolve,invoke,builtin,Sem.run_bind,Sem.run_pure,Result.andThen_ok,List.map_toArray,zc,Yk,Y,a2,X];exact l d w' p q r
theorem fV{ops:Array Oper}{k:List Oper}{o:Oper}{a:Act}{Q:Exit->Act->World->Prop}(K:o.guard=none)(s x:Operand)(t:TypeId)
 (N:o.op=.call {callee:=.builtin .append,args:=#[s,x],argTypes:=#[t,t]})
 (base:Nat) (e:TypeId) (i:TypeInfo) (z:Value) (size j:Nat) (a2:P.underlying t=some (.slice e)) (L:P.info? e=some i) (a4:i.zero=some z)
 (a0:i.size=size) (F:i.bytes=j) (a5:z.cells.size=size) (a1:0<size)
 (v:Value) (n:Nat) (xs:List Value) (Z:a.eval s=v) (X:w.ownsRow base e size v n xs)
 (B:Nat) (A:Option Addr) (b c:Nat) (f:List Value) (a3:a.eval x=.slice A b c) (Y:cO w B size A b f) (m:∀u∈f,u.oneCell'=true)
 (C:n+b<=maxLen) (G:(n+b)*j<=140737488355328) (E:base<=w.heap.size)
 (l:∀d w',w'.ownsRow base e size d (n+b) (xs++f)->w.grownBy w' v.ownBlock->(d.ownBlock=v.ownBlock\/d.ownBlock=some w.heap.size)->wpList P ops Q k (a.put o.dst d) w'):wpList P ops Q (o :: k) a w:=
 wpList_plain K λ_ D=>iK w s x t N base e i z size j a2 L a4 a0 F a5 a1 v n xs Z X B A b c f a3 Y m C G E λd w' p q r=>D _ _ (l d w' p q r)
theorem kj{ops:Array Oper}{o:Oper}{a:Act}{k:Act->World->Prop}{Q:Exit->Act->World->Prop}{l:Prop}(E:o.guard=none)(s x:Operand)(t:TypeId)
 (G:o.op=.call {callee:=.builtin .append,args:=#[s,x],argTypes:=#[t,t]})
 (base:Nat) (d:TypeId) (i:TypeInfo) (z:Value) (size j:Nat) (Z:P.underlying t=some (.slice d)) (F:P.info? d=some i) (a2:i.zero=some z)
 (X:i.size=size) (C:i.bytes=j) (a3:z.cells.size=size) (Y:0<size)
 (v:Value) (n:Nat) (xs:List Value) (N:a.eval s=v) (K:w.ownsRow base d size v n xs)
 (B:Nat) (A:Option Addr) (b c:Nat) (e:List Value) (a1:a.eval x=.slice A b c) (L:cO w B size A b e) (p:∀u∈e,u.oneCell'=true)
 (q:n+b<=maxLen) (D:(n+b)*j<=140737488355328) (r:base<=w.heap.size)
 (m:∀f w',w'.ownsRow base d size f (n+b) (xs++e)->w.grownBy w' v.ownBlock->(f.ownBlock=v.ownBlock\/f.ownBlock=some w.heap.size)->k (a.put o.dst f) w'):
 if Region.wanted o (yielded ops a.tmps)=true then Oper.wp P o a w k Q else l:=by
 have a0:Region.wanted o (yielded ops a.tmps)=true:=by simp[Region.wanted,E]
 rw[yf a0];exact iK w s x t G base d i z size j Z F a2 X C a3 Y v n xs N K B A b c e a1 L p q D r m
end
theorem wM{w:World}{B:Nat}{a:Addr}{n:Nat}{xs:List Int}(c:xs.length=n)(e:a.block<B)(d:∀j,j<n->w.cell? (a.add j)=some (.int .i64 (xs.getD j 0))):cO w B 1 (some a) n (xs.map (.int .i64)):=by
 refine⟨by simp[c],λ_=>⟨a,rfl,e,λj u b=>?_⟩⟩;have f:j<n:=by have:=(gS b).1;simpa[c] using this
 rw[d j f];rw[yJ,gG (by omega)] at b
 simpa[List.getD,gG (show j<xs.length by omega)] using b
theorem kY{P:Program}(t b:TypeId)(i:TypeInfo)(z:Value)(m:P.underlying t=some (.slice b))(l:P.info? b=some i)(o:i.zero=some z)
 (f e:IntKind) (n c:Nat) (r:n<=c) (q:i.bytes*c<=281474976710656) (p:c<=9223372036854775807) (w:World):
 (Instr.makeSlice t (.int f (n:Int)) (.int e (c:Int))).run P w=.ok (.slice (some ⟨w.heap.size,0,none⟩) n c) (w.alloc (.cells (madeCells z.cells (c*i.size)) b)):=by
 have k:(i.bytes:Int)*(c:Int)<=281474976710656:=by
  have j:((i.bytes*c:Nat):Int)<=281474976710656:=by omega
  rwa [Int.natCast_mul] at j
 have d:=run_make (P:=P) w t b i z m l o f e n c (by omega) (by omega) k (by omega);simp only[yo] at d;exact d
theorem cE{fn:Func}{t u v x:Tmp}(c:fn.results= #[.tmp t,.tmp u,.tmp v,.tmp x])(b:Array Value)(P:Program)(w:World):
 (results fn b).run P w=.ok (.tuple #[b.getD t undef,b.getD u undef,b.getD v undef,b.getD x undef]) w:=by simp[results,c]
theorem tG{k:IntKind}{xs:List Int}:∀u∈xs.map (Value.int k),u.oneCell'=true:=by
 intro u b;obtain⟨x,_,rfl⟩:=yL.1 b;rfl
section
open Go.ChangeShapes Go.WideShapes Go.Deep
section
variable {H:Type}{enc:TypeId×Value->H}{P:Program}{w:World}{base:Nat}{spare:Nat->Bool}{held:Bool}
theorem fU{t p:TypeId}{b:Array Field}{E:Nat}{cs:List Value}{x:DataW H×List MemPlace}(ab:P.underlying t=some (.slice p))(Y:P.underlying p=some (.struct b))
 (a8:oneCellFields P b=true) (u:P.cellsOf p=b.size) (F:DataW.trod enc P w base spare held E t cs=some x):
 (cs= [.slice none 0 0]/\x=(.nil,[]))\/
 ∃(a:Addr) (c k e:Nat) (l:Nat->DataW H) (m:Nat->List MemPlace),cs= [.slice (some a) c k]/\base<=a.block/\c<=k/\k<=maxLen/\e=(if spare a.block then k else c)/\
  x=(.slice ((List.range c).map l) ((List.range (e-c)).map λj=>l (c+j)),MemPlace.row a (e*b.size)++(List.range e).flatMap m)/\
  ∀i,i<e->∃(d:List (DataW H×List MemPlace)) (n:Nat),l i=.agg (d.map (·.1))/\m i=d.flatMap (·.2)/\d.length=b.size/\
   ∀(j:Nat) (f:Field),b[j]?=some f->∃(v:Value) (y:DataW H×List MemPlace),w.cell? (a.add (i*b.size+j))=some v/\d[j]?=some y/\DataW.trod enc P w base spare held n f.type [v] =some y:=by
 rcases open_slice ab F with G|⟨a,c,k,e,n,l,m,X,L,a4,a5,a6,C,a0⟩
 ·exact .inl G
 ·refine .inr ⟨a,c,k,e,l,m,X,L,a4,a5,a6,by rw[u] at C;exact C,λi a1=>?_⟩
  obtain⟨o,z,ad⟩:=a0 i a1;rw[u] at z;obtain⟨d,n',an,s,am,ai,Z⟩:=DataW.trod_struct Y ad;obtain⟨_,al,K⟩:=World.cells?_some z;simp only[yP] at s;refine⟨d,n',s.1,s.2,ai,λj f r=>?_⟩;obtain⟨a7,a3⟩:=hone_of a8 j f r;have a2:j<b.size:=(yu.1 r).1;have N:=K j a2;have hv:o[j]?=some (o[j]'(by omega)):=gG (by omega);have q:=Z j f r;rw[a7,a3] at q
  have a9:(o.drop j).take 1= [o[j]'(by omega)]:=by
   rw[yM (by omega)];rfl
  rw[a9] at q;have D:d[j]?=some (d[j]'(by omega)):=gG (by omega);refine⟨_,_,?_,D,q.trans D⟩;rw[<-Go.Deep.add_add,N,hv]
end
end
end
section
set_option maxRecDepth 100000
open Go.RowKit
def fD(ds:List Nat)(u:Nat->Value):Nat->List Value->List Value
 |_,[]=>[]
 |s,x :: xs=>(if ds.contains s then u s else x) :: fD ds u (s+1) xs
def dD(u:Nat->Value)(t:Option Nat):Value:=match t with|some t=>u t|none=>undef
def dN(t:Option Nat)(v:Value):Value:=match t with|some _=>v|none=>undef
def pT(u:Nat->Value)(t:Option Nat)(v:Value):Nat->Value:=λs=>if t=some s then v else u s
theorem tz(ds:List Nat)(u:Nat->Value):∀(s:Nat) (xs:List Value),(fD ds u s xs).length=xs.length
 |_,[]=>rfl
 |s,_ :: xs=>by simp[fD,tz ds u (s+1) xs]
theorem rz(ds:List Nat)(u:Nat->Value):∀(xs:List Value) (s k:Nat),(fD ds u s xs)[k]?=(xs[k]?).map λx=>if ds.contains (s+k) then u (s+k) else x
 | [],s,k=>by simp[fD]
 |x :: xs,s,0=>by simp[fD]
 |x :: xs,s,k+1=>by
  simp only[fD,List.getElem?_cons_succ,rz ds u xs (s+1) k];rw[show s+1+k=s+(k+1) by omega]
theorem Cg(ds:List Nat)(u:Nat->Value)(xs:List Value)(t:Nat)(v:Value)(d:t∈ds):
 (fD ds u 0 xs).toArray.setIfInBounds t v=(fD ds (pT u (some t) v) 0 xs).toArray:=by
 apply Array.ext_getElem?;intro k;rw[Array.getElem?_setIfInBounds];simp only[zi,List.size_toArray,tz,rz,yq]
 by_cases b:t=k
 ·subst b
  by_cases c:t<xs.length
  ·simp[c,pT,d]
  ·simp[c]
 ·rw[yb b]
  cases xs[k]? with
  |none=>rfl
  |some x=>
   simp only[yU,pT,yC,b,Yi]
def cL(ops:Array Oper)(V:List (Value->World->Prop))(u:Nat->Value)(w:World):List Edge->Prop
 | []=>True
 |e :: es=>(if Region.binds .any e=true then(match ops[e.on]? with|some o=>V.getD e.on (λ_ _=>True) (dD u o.dst) w|none=>True) else True)/\cL ops V u w es
def dP(V:List (Value->World->Prop))(u:Nat->Value)(w:World):Nat->List Oper->Prop
 |_,[]=>True
 |i,o :: os=>V.getD i (λ_ _=>True) (dD u o.dst) w/\dP V u w (i+1) os
def fe(ops:Array Oper):List Nat:=ops.toList.filterMap (·.dst)
def ew(ops:Array Oper)(u:Nat->Value)(tmps:Array Value):Array Value:=(fD (fe ops) u 0 tmps.toList).toArray
def ny(ops:Array Oper):Bool:=
 ops.toList.zipIdx.all (λ(o,i)=>o.after.toList.all (λe=>!Region.binds .any e||decide (e.on<i)))&&
 ops.toList.zipIdx.all (λ(o,i)=>ops.toList.zipIdx.all λ(o',j)=>i==j||o.dst.isNone||o.dst !=o'.dst)
section
variable {P:Program}{ops:Array Oper}{Q:Exit->Act->World->Prop}{R:World->World->Prop}{V:List (Value->World->Prop)}{a:Act}{w:World}
theorem qy{u:Nat->Value}{c:World}:∀(l:List Oper) (k:Nat),(∀i o,l[i]?=some o->V.getD (k+i) (λ_ _=>True) (dD u o.dst) c)->dP V u c k l
 | [],_,_=>trivial
 |x :: l,k,b=>⟨b 0 x rfl,qy l (k+1) λi o d=>by
    have:=b (i+1) o (by simpa using d)
    rwa [show k+(i+1)=k+1+i by omega] at this⟩
theorem oE{u:Nat->Value}{d:World}:∀(b:List Edge),(∀e∈b,Region.binds .any e=true->∀o,ops[e.on]?=some o->V.getD e.on (λ_ _=>True) (dD u o.dst) d)->cL ops V u d b
 | [],_=>trivial
 |e :: b,c=>⟨by
    split
    ·rename_i i
     split
     ·exact c e (by simp) i _ (by assumption)
     ·trivial
    ·trivial,oE b λf j=>c f (by simp[j])⟩
theorem wn(c:ny ops=true){i:Nat}{o:Oper}(k:ops[i]?=some o){b:Edge}(f:b∈o.after)(e:Region.binds .any b=true):b.on<i:=by
 simp only[ny,zm,List.all_eq_true] at c
 have j:(o,i)∈ops.toList.zipIdx:=by
  rw[List.mem_zipIdx_iff_getElem?]
  simpa using k
 have d:=c.1 (o,i) j b (by simpa using f)
 simpa[e] using d
theorem AV(c:ny ops=true){i j:Nat}{o b:Oper}(m:ops[i]?=some o)(p:ops[j]?=some b)(f:i≠j){t:Nat}(q:o.dst=some t):b.dst≠some t:=by
 simp only[ny,zm,List.all_eq_true] at c
 have k:(o,i)∈ops.toList.zipIdx:=by
  rw[List.mem_zipIdx_iff_getElem?]
  simpa using m
 have l:(b,j)∈ops.toList.zipIdx:=by
  rw[List.mem_zipIdx_iff_getElem?]
  simpa using p
 have d:=c.2 (o,i) k (b,j) l;simp only[Bool.or_eq_true,beq_iff_eq,f,false_or,q,Option.isNone_some,zB,bne_iff_ne] at d;exact λe=>d e.symm
theorem tn{l:Array Bool}{i:Nat}{n:Nat}(d:l.getD i true=false)(c:(l.toList.filter (!·)).length<=n+1):
 ((l.setIfInBounds i true).toList.filter (!·)).length<=n:=by
 have f:i<l.size:=by
  rcases zO i l.size with e|e
  ·exact e
  ·simp[Array.getElem?_eq_none e] at d
 have b:l.toList[i]?=some false:=by
  simp[f] at d;simp[f,d]
 rw[zW];generalize l.toList=xs at*;clear d f
 induction xs generalizing i n with
 |nil=>simp at b
 |cons x xs j=>
  cases i with
  |zero=>
   simp at b;subst b;simp at c ⊢;exact c
  |succ i=>
   simp at b
   cases x with
   |true=>
    simp at c ⊢;exact j c b
   |false=>
    simp at c ⊢
    cases n with
    |zero=>
     exfalso;have:xs.filter (!·)= []:=yr (by omega);have k:false∈xs:=yh b;have:=List.filter_eq_nil_iff.1 this false k;simp at this
    |succ n=>exact Nat.succ_le_succ (j (by omega) b)
theorem pZ(n:Nat):((Array.replicate n false).toList.filter (!·)).length<=n:=by simp
theorem xX(ops:Array Oper)(a:Act):(⟨ew ops (λs=>a.tmps.getD s undef) a.tmps,a.defers⟩ :Act)=a:=by
 have b:ew ops (λs=>a.tmps.getD s undef) a.tmps=a.tmps:=by
  unfold ew;apply Array.ext_getElem?;intro k;simp only[zi,rz,yq,zj]
  cases hk:a.tmps[k]? with
  |none=>rfl
  |some x=>simp[Array.getD_eq_getD_getElem?,hk]
 rw[b]
def sM(R:World->World->Prop):List (Value->World->Prop)->Prop
 | []=>True
 |p :: ps=>(∀v {x y},p v x->R x y->p v y)/\sM R ps
theorem ur:∀(V:List (Value->World->Prop)),sM R V->∀i v {x y},V.getD i (λ_ _=>True) v x->R x y->V.getD i (λ_ _=>True) v y
 | [],_,_,_,_,_,b,_=>by simp at b ⊢
 |p :: _,d,0,v,_,_,b,c=>d.1 v b c
 |_ :: ps,d,i+1,v,_,_,b,c=>by
  have:=ur ps d.2 i v (by simpa using b) c
  simpa using this
theorem ap{o:Oper}{y:Nat->Option Bool}{b Y:Prop}(d:o.guard=none)(c:b):if Region.wanted o y=true then b else Y:=by
 have e:Region.wanted o y=true:=by simp[Region.wanted,d]
 rw[yf e];exact c
def Is(x:Value):Value->World->Prop:=λv _=>v=x
abbrev ao(p o:Nat):=Is (.pointer (some ⟨p,o,none⟩))
theorem D4(R:World->World->Prop)(a:Value):∀v {x y:World},Is a v x->R x y->Is a v y:=λ_ _ _ b _=>b
theorem sT{R:World->World->Prop}{a:Value}:∀v {x y:World},Is a v x->R x y->Is a v y:=D4 R a
end
set_option maxRecDepth 100000
def bY(ld:Nat->Bool)(i:Nat):Nat->Bool:=λj=>if j=i then true else ld j
def bj(ld:Nat->Bool):List Edge->Prop
 | []=>True
 |e :: es=>(if Region.binds .any e=true then ld e.on=true else True)/\bj ld es
def xA(P:Program)(ops:Array Oper)(Q:Exit->Act->World->Prop)(St:(Nat->Bool)->World->Prop)(V:List (Value->World->Prop))(a:Act)(i:Nat)(o:Oper):Prop:=
 ∀(ld:Nat->Bool) (u:Nat->Value) (w1:World),ld i=false->bj ld o.after.toList->St ld w1->cL ops V u w1 o.after.toList->
  ∀K:Act->World->Prop,(∀v w2,St (bY ld i) w2->V.getD i (λ_ _=>True) (dN o.dst v) w2->K ((⟨ew ops u a.tmps,a.defers⟩ :Act).put o.dst v) w2)->
   if Region.wanted o (yielded ops (ew ops u a.tmps))=true then o.wp P ⟨ew ops u a.tmps,a.defers⟩ w1 K Q else St (bY ld i) w1/\V.getD i (λ_ _=>True) undef w1
def jN(P:Program)(ops:Array Oper)(Q:Exit->Act->World->Prop)(St:(Nat->Bool)->World->Prop)(V:List (Value->World->Prop))(a:Act):Nat->List Oper->Prop
 |_,[]=>True
 |i,o :: os=>xA P ops Q St V a i o/\jN P ops Q St V a (i+1) os
section
variable {P:Program}{ops:Array Oper}{Q:Exit->Act->World->Prop}{St:(Nat->Bool)->World->Prop}{V:List (Value->World->Prop)}{a:Act}{w:World}
theorem jN.at_:∀(l:List Oper) (k:Nat),jN P ops Q St V a k l->∀i o,l[i]?=some o->xA P ops Q St V a (k+i) o
 | [],_,_,i,o,b=>by simp at b
 |x :: l,k,c,0,o,b=>by
  simp at b;subst b;exact c.1
 |x :: l,k,c,i+1,o,b=>by
  have:=jN.at_ l (k+1) c.2 i o (by simpa using b)
  rwa [show k+1+i=k+(i+1) by omega] at this
theorem nY{ld:Nat->Bool}:∀(b:List Edge),(∀e∈b,Region.binds .any e=true->ld e.on=true)->bj ld b
 | [],_=>trivial
 |e :: b,c=>⟨by
    split
    ·rename_i f;exact c e (by simp) f
    ·trivial,nY b λd i=>c d (by simp[i])⟩
theorem D7{l:Array Bool}{i:Nat}(c:i<l.size):(λj=>(l.setIfInBounds i true).getD j false)=bY (λj=>l.getD j false) i:=by
 funext j;unfold bY
 by_cases b:j=i
 ·subst b;simp[c]
 ·rw[yb b,getD_set_ne false (Ne.symm b)]
theorem Dm(ab:ny ops=true)(am:∀i v {x y:World},V.getD i (λ_ _=>True) v x->V.getD i (λ_ _=>True) v y)
 (b4:jN P ops Q St V a 0 ops.toList)
 (ai:∀u c ld,(∀i,i<ops.size->ld i=true)->St ld c->dP V u c 0 ops.toList->Q .normal ⟨ew ops u a.tmps,a.defers⟩ c):
 ∀(q:Nat) (b:Array Bool) (u:Nat->Value) (c:World),b.size=ops.size->(b.toList.filter (!·)).length<=q->St (λj=>b.getD j false) c->
  (∀i o,ops[i]?=some o->b.getD i false=true->V.getD i (λ_ _=>True) (dD u o.dst) c)->
  wpAny P .any ops Q q b ⟨ew ops u a.tmps,a.defers⟩ c:=by
 have a5:∀(b:Array Bool) (u:Nat->Value) (c:World),b.size=ops.size->St (λj=>b.getD j false) c->
  (∀i o,ops[i]?=some o->b.getD i false=true->V.getD i (λ_ _=>True) (dD u o.dst) c)->Region.ready .any ops b= []->Q .normal ⟨ew ops u a.tmps,a.defers⟩ c:=by
  intro b u c m z l K
  have a8:∀n,∀i,i<n->i<ops.size->b.getD i false=true:=by
   intro n
   induction n with
   |zero=>intro i D;omega
   |succ n N=>
    intro i D d
    rcases zO i n with a4|a4
    ·exact N i a4 d
    ·obtain rfl:i=n:=by omega
     cases e:b.getD i false with
     |true=>rfl
     |false=>
      exfalso
      have F:i∈Region.ready .any ops b:=mem_ready.2 ⟨by simp[m,d] at e ⊢;exact e,ops[i],by simp[d],λp C e=>by
       have:=wn ab (i:=i) (o:=ops[i]) (by simp[d]) C e;exact N p.on this (by omega)⟩
      rw[K] at F
      cases F
  refine ai u c _ (λi D=>a8 (i+1) i (by omega) D) z (qy _ 0 λi o k=>?_);rw[yq];have G:ops[i]?=some o:=by simpa using k
  have d:i<ops.size:=(yu.1 G).1;exact l i o G (a8 (i+1) i (by omega) d)
 intro q
 induction q with
 |zero=>
  intro b u c m a1 z l
  have K:Region.ready .any ops b= []:=by
   rw[List.eq_nil_iff_forall_not_mem];intro j f;have Z:=(mem_ready.1 f).1
   have d:j<b.size:=by
    rcases zO j b.size with Y|Y
    ·exact Y
    ·simp[Array.getElem?_eq_none Y] at Z
   have F:false∈b.toList:=by
    simp[d] at Z;rw[<-Z];simp
   have ar:=yr (Nat.le_zero.1 a1);have:=List.filter_eq_nil_iff.1 ar false F;simp at this
  exact⟨K,a5 b u c m z l K⟩
 |succ q N=>
  intro b u c m a1 z l;refine⟨a5 b u c m z l,λi D=>?_⟩;obtain⟨L,o,k,a6⟩:=mem_ready.1 D;have d:i<b.size:=by rw[m];exact(yu.1 k).1
  have ad:=jN.at_ ops.toList 0 b4 i o (by simpa using k);rw[yq] at ad
  have aw:∀v,(⟨ew ops u a.tmps,a.defers⟩ :Act).put o.dst v=⟨ew ops (pT u o.dst v) a.tmps,a.defers⟩:=by
   intro v
   cases hd:o.dst with
   |none=>
    have:pT u none v=u:=by funext s;simp[pT]
    rw[this];rfl
   |some t=>
    have az:t∈fe ops:=List.mem_filterMap.2 ⟨o,by simpa using Array.mem_of_getElem? k,hd⟩;show(⟨_,_⟩ :Act)=_;simp only[ew];rw[Cg _ _ _ _ _ az]
  have a9:∀v E,St (bY (λj=>b.getD j false) i) E->V.getD i (λ_ _=>True) (dN o.dst v) E->wpAny P .any ops Q q (b.setIfInBounds i true) ((⟨ew ops u a.tmps,a.defers⟩ :Act).put o.dst v) E:=by
   intro v E al hv;rw[aw v];refine N _ _ _ (by simpa using m) (tn L a1) (by rw[D7 d];exact al) λj X f a7=>?_
   by_cases a2:j=i
   ·subst a2
    rw[k] at f;injection f with f;subst f;have a0:dD (pT u o.dst v) o.dst=dN o.dst v:=by cases o.dst<;>simp[dD,pT,dN]
    rw[a0];exact hv
   ·rw[getD_set_ne false (Ne.symm a2)] at a7
    have r:=am j (y:=E) _ (l j X f a7)
    have a0:dD (pT u o.dst v) X.dst=dD u X.dst:=by
     cases hd:X.dst with
     |none=>rfl
     |some t=>
      have:=AV ab f k a2 hd;simp[dD,pT,this]
    rw[a0];exact r
  have av:cL ops V u c o.after.toList:=oE _ λp C e b3 G=>l p.on b3 G (a6 p (by simpa using C) e)
  have aE:(λj=>b.getD j false) i=false:=by
   simp only;simp only[Array.getD_eq_getD_getElem?] at L ⊢;rw[zM d] at L ⊢
   simpa using L
  have an:bj (λj=>b.getD j false) o.after.toList:=nY _ λp C e=>a6 p (by simpa using C) e
  have r:=ad (λj=>b.getD j false) u c aE an z av _ a9;unfold wpOp;simp only[k];split at r
  ·rename_i a3
   rw[yf a3];exact .inl r
  ·rename_i a3
   rw[yb a3];exact a9 undef c r.1 (by cases o.dst<;>exact r.2)
theorem bc{id:Nat}(l:P.follows .mixedOrders=true)(St:(Nat->Bool)->World->Prop)(V:List (Value->World->Prop))(m:ny ops=true)
 (k:sM (λ_ _=>True) V) (p:St (λ_=>false) w.drew)
 (q:jN P ops Q St V a 0 ops.toList)
 (f:∀u c ld,(∀i,i<ops.size->ld i=true)->St ld c->dP V u c 0 ops.toList->Q .normal ⟨ew ops u a.tmps,a.defers⟩ c):(Code.region id ops true).wp P Q a w:=by
 refine wp_region_any l ?_;change wpAny P .any ops Q ops.size (Array.replicate ops.size false) a w.drew
 have e:∀j,(Array.replicate ops.size false).getD j false=false:=by
  intro j;simp only[Array.getD_eq_getD_getElem?,Array.getElem?_replicate];split<;>rfl
 have b:=Dm (Q:=Q) (V:=V) (a:=a) m (λi v x y b=>ur (R:=λ_ _=>True) V k i v b trivial) q f ops.size (Array.replicate ops.size false) (λs=>a.tmps.getD s undef) w.drew (by simp) (pZ _) (by
  have:(λj=>(Array.replicate ops.size false).getD j false)=λ_=>false:=funext e
  rw[this];exact p) (λi o _ d=>by
  rw[e] at d;cases d)
 rwa [xX] at b
end
def eR(S:Nat->Prop)(W:World)(b:Bool)(Q:World->Prop)(y:World):Prop:=aa S W y/\(if b=true then Q y else y=W)
theorem eR.start{S:Nat->Prop}{W:World}{Q:World->Prop}:eR S W false Q W:=⟨oR,by simp⟩
theorem eR.was{S:Nat->Prop}{W y:World}{b:Bool}{Q:World->Prop}(c:eR S W b Q y)(d:b=false):y=W:=by simpa[d] using c.2
theorem eR.got{S:Nat->Prop}{W y:World}{b:Bool}{Q:World->Prop}(c:eR S W b Q y)(d:b=true):Q y:=by simpa[d] using c.2
theorem eR.put{S:Nat->Prop}{W y:World}{Q:World->Prop}(b:aa S W y)(c:Q y):eR S W true Q y:=⟨b,by simpa using c⟩
def eo(S:Nat->Prop)(W:World)(b0 b1 b2:Bool)(Q1 Q2:World->Prop)(y:World):Prop:=aa S W y/\(b2=true->b1=true/\b0=true)/\(if b2=true then Q2 y else if b1=true then Q1 y else y=W)
section
variable {S:Nat->Prop}{W y:World}{b0 b1 b2:Bool}{Q1 Q2:World->Prop}
theorem eo.start{b0:Bool}:eo S W b0 false false Q1 Q2 W:=⟨oR,by simp,by simp⟩
theorem eo.was(c:eo S W b0 b1 b2 Q1 Q2 y)(b:b1=false):y=W/\b2=false:=by
 obtain⟨_,d,e⟩:=c
 cases b2 with
 |false=>simpa[b] using e
 |true=>simp[b] at d
theorem eo.mid(b:eo S W b0 b1 b2 Q1 Q2 y)(c:b1=true)(d:b2=false):Q1 y:=by simpa[c,d] using b.2.2
theorem eo.got(b:eo S W b0 b1 b2 Q1 Q2 y)(c:b2=true):Q2 y:=by simpa[c] using b.2.2
theorem eo.or(b:eo S W b0 b1 b2 Q1 Q2 y):y=W\/Q1 y\/Q2 y:=by
 cases b2 with
 |true=>exact .inr (.inr (b.got rfl))
 |false=>
  cases b1 with
  |true=>exact .inr (.inl (b.mid rfl rfl))
  |false=>exact .inl (b.was rfl).1
theorem eo.or0(c:eo S W b0 b1 b2 Q1 Q2 y)(e:b0=false):y=W\/Q1 y:=by
 obtain⟨_,d,b⟩:=c
 cases b2 with
 |true=>have:=(d rfl).2;rw[e] at this;cases this
 |false=>
  cases b1 with
  |true=>exact .inr (by simpa using b)
  |false=>exact .inl (by simpa using b)
theorem eo.put1{b:World}(c:eo S W b0 b1 b2 Q1 Q2 y)(d:b1=false)(e:aa S W b)(f:Q1 b):eo S W b0 true b2 Q1 Q2 b:=by
 have:=(c.was d).2;subst this;exact⟨e,by simp,by simpa using f⟩
theorem eo.put2(c:b1=true)(b:b0=true)(d:aa S W y)(e:Q2 y):eo S W b0 b1 true Q1 Q2 y:=⟨d,λ_=>⟨c,b⟩,by simpa using e⟩
theorem eo.mo{b0':Bool}(b:eo S W b0 b1 b2 Q1 Q2 y)(d:b0=true->b0'=true):eo S W b0' b1 b2 Q1 Q2 y:=⟨b.1,λc=>⟨(b.2.1 c).1,d (b.2.1 c).2⟩,b.2.2⟩
end
def bs(s:ByteArray):List Nat:=s.data.toList.map UInt8.toNat
theorem sW(s:ByteArray):(bs s).length=s.size:=by simp[bs]
structure kx(w:World)(g:Nat)(xs:List Nat):Prop where
 lt:g<w.heap.size
 I:∀j,j<xs.length->w.cell? ⟨g,j,none⟩=some (.int .u8 ((xs.getD j 0:Nat):Int))
 free:∀j,j<xs.length->w.frozen? ⟨g,j,none⟩=false
theorem kx.only{S:Nat->Prop}{w w':World}{g:Nat}{xs:List Nat}(b:kx w g xs)(d:aa S w w')(e:¬S g):kx w' g xs:=
 ⟨lL b.lt d.size,λj c=>(d.I (p:=⟨g,j,none⟩) b.lt e).trans (b.I j c),λj c=>(World.frozen?_of_block (d.block g b.lt e)).trans (b.free j c)⟩
section
variable {P:Program}
theorem pE(s:ByteArray)(c j:Nat)(d:j<s.size):(bytesRow s c)[j]?=some (.int .u8 (((bs s).getD j 0:Nat):Int)):=by
 have b:j<s.data.size:=d;unfold bytesRow bs;rw[zX (by simpa using b)];simp[List.getD];exact⟨s.data[j],zM b,by simp[zM b]⟩
theorem uX{b:Oper}{a:Act}{w w':World}{c:Act->World->Prop}{Q:Exit->Act->World->Prop}(e:TypeId)(x y:Operand)(i:b.op=.store e x y){d v:Value}(k:a.eval x=d)(l:a.eval y=v)
 (j:(Instr.storeAt e d v).run P w=.ok () w') (f:c (a.put b.dst undef) w'):b.wp P a w c Q:=by
 unfold Oper.wp execOp;simp only[i,k,l,Sem.run_bind,Sem.run_pure,Result.andThen_ok,j];exact f
theorem kr{ops:Array Oper}{e:List Oper}{b:Oper}{a:Act}{w w':World}{Q:Exit->Act->World->Prop}(j:b.guard=none)(c:TypeId)(x y:Operand)(k:b.op=.store c x y){d v:Value}(m:a.eval x=d)(o:a.eval y=v)
 (l:(Instr.storeAt c d v).run P w=.ok () w') (f:wpList P ops Q e (a.put b.dst undef) w'):wpList P ops Q (b :: e) a w:=
 wpList_plain j λ_ i=>uX c x y k m o l (i _ _ f)
end
end
end Go.Proofs.YtmdocplknceilaaGreat
