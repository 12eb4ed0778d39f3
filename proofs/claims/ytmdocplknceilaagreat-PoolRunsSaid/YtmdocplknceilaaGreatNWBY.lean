import Derived.Test.YtmdocplknceilaaGreatNWBI
set_option linter.all false
namespace Go.Proofs.YtmdocplknceilaaGreat
section
open Go.RowKit Go.Maps
theorem Ej{w:World}{q:Nat}{T:TypeId}{cs:List Value}{k:Nat}(b:ae w q T cs.toArray)(a:cs.length=k):w.ownsRow 0 T k (.slice (some ⟨q,0,none⟩) 1 1) 1 cs:=by
 refine⟨by rw[a,Nat.one_mul],.inr ⟨q,1,cs.toArray,rfl,yx _,b,lR,by unfold maxLen;decide,by simp[a],?_⟩⟩;rw[Nat.one_mul,<-a];exact zr
theorem bi.one{w:World}{F:Nat->Prop}{q:Nat}(u:cW)(a:Option Addr×Nat)(cs:List Value)(f:gR u a=cs)(e:ae w q 77 cs.toArray)(d:aL w F a.1 u.tk.args):bi w F (.slice (some ⟨q,0,none⟩) 1 1) [u]:=by
 subst f;refine⟨[a],rfl,?_,λi j g b c=>?_⟩
 ·have:=Ej e (k:=7) rfl
  simpa[ey] using this
 ·cases i with
  |zero=>
   simp at b c;subst b;subst c;exact d
  |succ i=>simp at b
theorem mP{o:Oper}{a:Act}{W:World}{F:Nat->Prop}{l:Act->World->Prop}{Q:Exit->Act->World->Prop}(s x:Operand)(B:o.op=.call {callee:=.builtin .append,args:=#[s,x],argTypes:=#[36,36]})(v1:Value)(C:a.eval s=v1)(v2:Value)(E:a.eval x=v2)(f d:List cW)(r:bi W F v1 f)(u:bi W F v2 d)(Y:f.length+d.length<=1000000)
 (v:∀g w',bi w' F g (f++d)->aa (λb=>v1.ownBlock=some b) W w'->(∀b,g.ownBlock=some b->v1.ownBlock=some b\/W.heap.size<=b)->l (a.put o.dst g) w'):o.wp Tryz.prog a W l Q:=by
 obtain⟨i,z,y,G,D,w,H⟩:=Cr;obtain⟨X,P,q,R⟩:=r;obtain⟨bs,K,n,N⟩:=u;obtain⟨A,c,rfl⟩:=bP n;refine iK W s x 36 B 0 77 i z 7 80 Tryz.underlying36 y G D w H (by decide) v1 f.length (ey f X) C q W.heap.size A d.length c (ey d bs) E (bi.reads bs n) (qF d bs) (by unfold maxLen;omega) (by omega) (yx _) (λg w' S T V=>?_);have m:aa (λb=>v1.ownBlock=some b) W w':=(aa.refl _ W).grown T (λk e=>.inl e);refine v g w' (xO P q R K N m S) m (λb j=>?_)
 rcases V with e|e
 ·exact .inl (by rw[<-e];exact j)
 ·rw[e] at j
  exact .inr (zl (yz j))
theorem gy{j:Array Oper}{o:Oper}{a:Act}{W:World}{F:Nat->Prop}{i:Act->World->Prop}{Q:Exit->Act->World->Prop}{k:Prop}{q:Nat}(v:o.guard=none)(s x:Operand)(w:o.op=.call {callee:=.builtin .append,args:=#[s,x],argTypes:=#[36,36]})(y:a.eval s=.slice (some ⟨q,0,none⟩) 1 1)(v2:Value)(A:a.eval x=v2)
 (u:cW) (g:Option Addr×Nat) (cs:List Value) (r:gR u g=cs) (f:ae W q 77 cs.toArray) (m:aL W F g.1 u.tk.args) (d:List cW) (l:bi W F v2 d) (E:d.length<=100000)
 (n:∀c w',bi w' F c (u :: d)->aa (λb=>b=q) W w'->(∀b,c.ownBlock=some b->b=q\/W.heap.size<=b)->i (a.put o.dst c) w'):
 if Region.wanted o (yielded j a.tmps)=true then Oper.wp Tryz.prog o a W i Q else k:=by
 have z:Region.wanted o (yielded j a.tmps)=true:=by simp[Region.wanted,v]
 rw[yf z];refine mP s x w _ y v2 A [u] d (bi.one u g cs r f m) l (by simp;omega) λc w' B C D=>n c w' B (C.mono λb e=>(yz e).symm) λb f=>(D b f).imp (λe=>(yz e).symm) id
theorem sG{o:Oper}{a:Act}{W:World}{g:Act->World->Prop}{Q:Exit->Act->World->Prop}{q:Nat}(s x:Operand)(w:o.op=.call {callee:=.builtin .append,args:=#[s,x],argTypes:=#[104,104]})(v1:Value)(z:a.eval s=v1)(B:a.eval x=.slice (some ⟨q,0,none⟩) 1 1)(rs:List aD)(y:aD)(l:ju W v1 rs)(c:ae W q 35 (md y).toArray)(G:rs.length<=1000)
 (m:∀d w',ju w' d (rs++ [y])->aa (λb=>v1.ownBlock=some b) W w'->(∀b,d.ownBlock=some b->v1.ownBlock=some b\/W.heap.size<=b)->g (a.put o.dst d) w'):o.wp Tryz.prog a W g Q:=by
 obtain⟨i,v,C,A,r⟩:=D2;refine iK W s x 104 w 0 35 i _ 2 16 Tryz.underlying104 v C A r rfl (by decide) v1 rs.length (rs.flatMap md) z l W.heap.size (some ⟨q,0,none⟩) 1 1 (md y) B ⟨rfl,λ_=>⟨⟨q,0,none⟩,rfl,c.lt,λj u f=>?_⟩⟩ (λu f=>by simp[md] at f;rcases f with rfl|rfl<;>rfl) (by unfold maxLen;omega) (by omega) (yx _) (λd w' D E F=>?_)
 ·rw[bw,yq,c.I,zi]
  exact f
 ·have n:aa (λb=>v1.ownBlock=some b) W w':=(aa.refl _ W).grown E (λk e=>.inl e)
  refine m d w' ?_ n (λb c=>?_)
  ·show w'.ownsRow 0 35 2 d (rs++ [y]).length ((rs++ [y]).flatMap md)
   rw[yk,zL]
   simpa using D
  ·rcases F with e|e
   ·exact .inl (by rw[<-e];exact c)
   ·rw[e] at c
    exact .inr (zl (yz c))
theorem py{d:Array Oper}{e:List Oper}{o:Oper}{a:Act}{W:World}{Q:Exit->Act->World->Prop}{q:Nat}(k:o.guard=none)(s x:Operand)(m:o.op=.call {callee:=.builtin .append,args:=#[s,x],argTypes:=#[104,104]})(v1:Value)(n:a.eval s=v1)(r:a.eval x=.slice (some ⟨q,0,none⟩) 1 1)(rs:List aD)(y:aD)(f:ju W v1 rs)(j:ae W q 35 (md y).toArray)(l:rs.length<=1000)
 (g:∀c w',ju w' c (rs++ [y])->aa (λb=>v1.ownBlock=some b) W w'->(∀b,c.ownBlock=some b->v1.ownBlock=some b\/W.heap.size<=b)->wpList Tryz.prog d Q e (a.put o.dst c) w'):wpList Tryz.prog d Q (o :: e) a W:=
 wpList_plain k λ_ i=>sG s x m v1 n r rs y f j l λc w' u v w=>i _ _ (g c w' u v w)
theorem oN{f:Array Oper}{g:List Oper}{o:Oper}{a:Act}{W:World}{F:Nat->Prop}{Q:Exit->Act->World->Prop}(m:o.guard=none)(s x:Operand)(q:o.op=.call {callee:=.builtin .append,args:=#[s,x],argTypes:=#[36,36]})(v1:Value)(r:a.eval s=v1)(v2:Value)(u:a.eval x=v2)(d e:List cW)(i:bi W F v1 d)(j:bi W F v2 e)(n:d.length+e.length<=1000000)
 (k:∀c w',bi w' F c (d++e)->aa (λb=>v1.ownBlock=some b) W w'->(∀b,c.ownBlock=some b->v1.ownBlock=some b\/W.heap.size<=b)->wpList Tryz.prog f Q g (a.put o.dst c) w'):wpList Tryz.prog f Q (o :: g) a W:=
 wpList_plain m λ_ l=>mP s x q v1 r v2 u d e i j n λc w' v w y=>l _ _ (k c w' v w y)
section
variable {p:List ah}{t:aj}{s:eh}{rs:List aD}{L:List aj}
theorem xg(p:List ah)(t:aj)(s:eh):(eP p t s).2.kd=s.kd:=by
 unfold eP;simp only;split
 ·rfl
 ·split
  ·rfl
  ·split<;>rfl
theorem xf(d:gJ p t s rs L)(e:gC p)(f:bW p t)(a:(eP p t s).1≠0):bH p t=⟨0,(eP p t s).1⟩/\aS p t=L:=by
 unfold eP at a ⊢;simp only at a ⊢
 by_cases b:s.left=0
 ·rw[yf b] at a ⊢
  exact d.over0 b
 ·rw[yb b] at a ⊢
  by_cases c:(bu p t.fn s.at_).k=12\/(bu p t.fn s.at_).k=13\/(bu p t.fn s.at_).k=14
  ·rw[yf c] at a
   exact absurd rfl a
  ·rw[yb c] at a ⊢
   have:=d.plain e f b c
   cases hp:dE (bu p t.fn s.at_) s.rg (s.at_+1) with
   |none=>rw[hp] at this;exact this
   |some x=>rw[hp] at a;exact absurd rfl a
theorem lq(a:(eP p t s).1=0):s.left≠0:=by
 intro c;unfold eP at a;simp only at a;rw[yf c] at a;have b:(130:Int)=0:=a;exact absurd b (by decide)
theorem sm(a:(eP p t s).1=0)(b:(bu p t.fn s.at_).k=12\/(bu p t.fn s.at_).k=13\/(bu p t.fn s.at_).k=14):(eP p t s).2= {s with left:=s.left-1,at_:=s.at_+1}:=by
 have c:=lq a;unfold eP;simp only;rw[yb c,yf b]
theorem uT(d:gJ p t s rs L)(f:gC p)(g:bW p t)(a:(eP p t s).1=0)(b:¬((bu p t.fn s.at_).k=12\/(bu p t.fn s.at_).k=13\/(bu p t.fn s.at_).k=14)):gJ p t (eP p t s).2 rs L/\(eP p t s).2.left<s.left:=by
 have c:=lq a;unfold eP at a ⊢;simp only at a ⊢;rw[yb c,yb b] at a ⊢;have:=d.plain f g c b
 cases hp:dE (bu p t.fn s.at_) s.rg (s.at_+1) with
 |none=>
  rw[hp] at a;have e:(131:Int)=0:=a;exact absurd e (by decide)
 |some x=>rw[hp] at this;exact⟨this,by show s.left-1<s.left;omega⟩
end
end
end Go.Proofs.YtmdocplknceilaaGreat
