import Derived.Handy
import Derived.Test.YtmdocplknceilaaGreatRWAA
set_option linter.all false
namespace Go.Proofs.YtmdocplknceilaaGreat
section
structure bK where
 k:Int
 d:Int
 a:Int
 b:Int
 n:Int
structure ah where
 args:Int
 rg:Int
 ops:List bK
structure aj where
 M:List UInt8
 fn:Int
 args:List Int
 fuel:Nat
structure aL where
 v:Int
 e:Int
def nW:bK:=⟨0,0,0,0,0⟩
def fn0:ah:=⟨0,0,[]⟩
def bG(p:List ah)(fn:Int):ah:=p.getD fn.toNat fn0
def bB(p:List ah)(fn at_:Int):bK:=(bG p fn).ops.getD at_.toNat nW
def jq(regs:List Int)(d x:Int):List Int:=regs.set d.toNat x
def ct(regs:List Int)(a:Int):Int:=regs.getD a.toNat 0
def du(k a b:Int):Option Int:=
 if k=2 then some a
 else if k=3 then some (IntKind.i64.wrap (a+b))
 else if k=4 then some (IntKind.i64.wrap (a-b))
 else if k=5 then some (IntKind.i64.wrap (a*b))
 else if k=6 then if b=0 then none else some (IntKind.i64.wrap (a.tdiv b))
 else if k=7 then if b=0 then none else some (IntKind.i64.wrap (a.tmod b))
 else if k=8 then some (if a<b then 1 else 0)
 else some (if a=b then 1 else 0)
def dF(o:bK)(regs:List Int)(at_:Int):Option (List Int×Int):=
 if o.k=1 then some (jq regs o.d o.n,at_)
 else if o.k=10 then some (regs,o.n)
 else if o.k=11 then some (regs,if ct regs o.a≠0 then o.n else at_)
 else match du o.k (ct regs o.a) (ct regs o.b) with
  |none=>none
  |some x=>some (jq regs o.d x,at_)
def cD:List (Int×aL)->Int
 | []=>0
 |c :: l=>if c.2.e≠0 then c.2.e else cD l
def dC:List (Int×aL)->List Int->List Int
 | [],regs=>regs
 |c :: l,regs=>dC l (jq regs c.1 c.2.v)
def ij(p:List ah)(fn:Int)(args:List Int):List Int:=args++List.replicate ((bG p fn).rg.toNat-args.length) 0
def dc(p:List ah)(path:List UInt8)(kids:Nat)(o:bK)(regs:List Int)(left:Nat):aj:=
 ⟨path++ [UInt8.ofNat (kids+1)],o.n,(regs.drop o.a.toNat).take (bG p o.n).args.toNat,left / 2⟩
def cM(p:List ah)(path:List UInt8)(fn:Int)(left:Nat)(regs:List Int)(at_:Int)(kids:Nat)(ws:List (Int×aL)):aL×List aj:=
 match left with
 |0=>(⟨0,130⟩,[])
 |l+1=>
  let o:=bB p fn at_
  if o.k=12 then
   if 16<=kids then(⟨0,132⟩,[])
   else if 12<=path.length then(⟨0,133⟩,[])
   else
    let t:=dc p path kids o regs l
    let x:=(cM p t.M t.fn (l / 2) (ij p t.fn t.args) 0 0 []).1
    let y:=cM p path fn (l-l / 2) regs (at_+1) (kids+1) (ws++ [(o.d,x)])
    (y.1,t :: y.2)
  else if o.k=13 then
   if cD ws≠0 then(⟨0,cD ws⟩,[]) else cM p path fn l (dC ws regs) (at_+1) kids []
  else if o.k=14 then
   if cD ws≠0 then(⟨0,cD ws⟩,[]) else(⟨ct (dC ws regs) o.a,0⟩,[])
  else match dF o regs (at_+1) with
   |none=>(⟨0,131⟩,[])
   |some x=>cM p path fn l x.1 x.2 kids ws
termination_by left
decreasing_by all_goals omega
def qy(p:List ah)(t:aj):aL×List aj:=cM p t.M t.fn t.fuel (ij p t.fn t.args) 0 0 []
def bw(p:List ah)(t:aj):aL:=(qy p t).1
def aR(p:List ah)(t:aj):List aj:=(qy p t).2
theorem oX(p:List ah)(path:List UInt8)(fn:Int):∀(left:Nat) (regs:List Int) (at_:Int) (kids:Nat) (ws:List (Int×aL)),
 (∀t∈(cM p path fn left regs at_ kids ws).2,t.fuel<left)/\(((cM p path fn left regs at_ kids ws).2.map λt=>t.fuel+1).sum<=left)/\
 (∀i t,(cM p path fn left regs at_ kids ws).2[i]?=some t->t.M=path++ [UInt8.ofNat (kids+i+1)]/\kids+i<16/\path.length<12):=by
 intro left
 induction left using Nat.strongRecOn with
 |_ left g=>
  intro regs at_ kids ws;unfold cM
  cases left with
  |zero=>simp
  |succ l=>
   simp only;split
   ·split
    ·simp
    ·split
     ·simp
     ·rename_i v w y
      have b:=g (l-l / 2) (by omega) regs (at_+1) (kids+1) (ws++ [((bB p fn at_).d,(cM p (dc p path kids (bB p fn at_) regs l).M (dc p path kids (bB p fn at_) regs l).fn (l / 2) (ij p (dc p path kids (bB p fn at_) regs l).fn (dc p path kids (bB p fn at_) regs l).args) 0 0 []).1)]);obtain⟨o,q,u⟩:=b;refine⟨λt c=>?_,?_,λi t e=>?_⟩
      ·rcases yG.1 c with rfl|c
       ·simp only[dc];omega
       ·have:=o t c;omega
      ·simp only[zc,zH,dc]
       simp only[dc] at q;omega
      ·cases i with
       |zero=>
        simp only[zQ,yC] at e;subst e;exact⟨rfl,by omega,by omega⟩
       |succ i=>
        have:=u i t (by simpa using e);refine⟨by rw[this.1];congr 3;omega,by omega,this.2.2⟩
   ·split
    ·split
     ·simp
     ·have b:=g l (by omega) (dC ws regs) (at_+1) kids []
      exact⟨λt c=>by have:=b.1 t c;omega,by have:=b.2.1;omega,b.2.2⟩
    ·split
     ·split<;>simp
     ·split
      ·simp
      ·rename_i x _
       have b:=g l (by omega) x.1 x.2 kids ws;exact⟨λt c=>by have:=b.1 t c;omega,by have:=b.2.1;omega,b.2.2⟩
theorem fG{p:List ah}{t k:aj}(b:k∈aR p t):k.fuel<t.fuel:=(oX p t.M t.fn t.fuel _ 0 0 []).1 k b
theorem AZ(p:List ah)(t:aj):((aR p t).map λk=>k.fuel+1).sum<=t.fuel:=(oX p t.M t.fn t.fuel _ 0 0 []).2.1
theorem dJ{p:List ah}{t k:aj}{i:Nat}(b:(aR p t)[i]?=some k):k.M=t.M++ [UInt8.ofNat (i+1)]/\i<16/\t.M.length<12:=by
 have:=(oX p t.M t.fn t.fuel _ 0 0 []).2.2 i k b
 simpa using this
structure eC where
 tk:aj
 res:aL
 kd:Nat
def aF(p:List ah)(t:aj):List eC:=
 ⟨t,bw p t,(aR p t).length⟩ :: ((aR p t).attach.flatMap λk=>aF p k.1)
termination_by t.fuel
decreasing_by exact fG k.2
theorem ev(p:List ah)(t:aj):aF p t=⟨t,bw p t,(aR p t).length⟩ :: (aR p t).flatMap (aF p):=by
 rw[aF]
 congr 1
 rw[List.flatMap_subtype (g:=aF p) (by simp)];simp
structure cZ where
 into:Int
 given:Bool
 r:aL
structure Fr where
 M:List UInt8
 fn:Int
 left:Nat
 rg:List Int
 at_:Int
 kd:List cZ
 joined:Nat
 waits:Option bK
 result:Option aL
inductive iX where
 |more
 |fork (t:aj)
 |join
 |done (r:aL)
def Fr.begun(p:List ah)(t:aj):Fr:=⟨t.M,t.fn,t.fuel,ij p t.fn t.args,0,[],0,none,none⟩
def Fr.ended(f:Fr)(r:aL):Fr×Option iX:=({f with result:=some r},some (.done r))
def Fr.os(f:Fr):List cZ:=f.kd.drop f.joined
def eo(l:List cZ):List (Int×aL):=l.map λc=>(c.into,c.r)
def Fr.joins(f:Fr)(o:bK):Fr×Option iX:=
 if f.os.any (λc=>!c.given)=true then({f with waits:=some o},some .join)
 else
  let f':Fr:={f with waits:=none,joined:=f.kd.length}
  if cD (eo f.os)≠0 then f'.ended ⟨0,cD (eo f.os)⟩
  else
   let f2:Fr:={f' with rg:=dC (eo f.os) f.rg}
   if o.k=14 then f2.ended ⟨ct f2.rg o.a,0⟩ else(f2,none)
def Fr.forks(p:List ah)(f:Fr)(o:bK):Fr×Option iX:=
 if 16<=f.kd.length then f.ended ⟨0,132⟩
 else if 12<=f.M.length then f.ended ⟨0,133⟩
 else
  let t:=dc p f.M f.kd.length o f.rg f.left
  ({f with left:=f.left-f.left / 2,kd:=f.kd++ [⟨o.d,false,⟨0,0⟩⟩]},some (.fork t))
def Fr.step(p:List ah)(f:Fr):Fr×Option iX:=
 if f.left=0 then f.ended ⟨0,130⟩
 else
  let o:=bB p f.fn f.at_
  let f':Fr:={f with left:=f.left-1,at_:=f.at_+1}
  if o.k=12 then f'.forks p o
  else if o.k=13\/o.k=14 then f'.joins o
  else match dF o f.rg (f.at_+1) with
   |none=>f'.ended ⟨0,131⟩
   |some x=>({f' with rg:=x.1,at_:=x.2},none)
def cz(x:Fr×Option iX):Fr×iX:=(x.1,x.2.getD .more)
def Fr.run1(p:List ah)(f:Fr):Fr×iX:=
 match f.waits with
 |none=>cz (f.step p)
 |some o=>
  match f.joins o with
  |(f',some s)=>(f',s)
  |(f',none)=>cz (f'.step p)
def Fr.waitsOf(f:Fr):List Nat:=(List.range f.kd.length).filter λi=>!(f.kd.getD i ⟨0,true,⟨0,0⟩⟩).given
def Fr.give(f:Fr)(i:Nat)(r:aL):Fr:={f with kd:=f.kd.set i ⟨(f.kd.getD i ⟨0,true,⟨0,0⟩⟩).into,true,r⟩}
structure gK(f:Fr)(ks:List aL):Prop where
 len:ks.length=f.kd.length
 val:∀(i:Nat) c r,f.kd[i]?=some c->ks[i]?=some r->c.given=true->c.r=r
 joined:f.joined<=f.kd.length
 old:∀(i:Nat) c,f.kd[i]?=some c->i<f.joined->c.given=true
def Fr.ws(f:Fr)(ks:List aL):List (Int×aL):=List.zip (f.os.map (·.into)) (ks.drop f.joined)
def gJ(p:List ah)(f:Fr)(ks:List aL):aL×List aj:=
 match f.waits with
 |none=>cM p f.M f.fn f.left f.rg f.at_ f.kd.length (f.ws ks)
 |some o=>
  if cD (f.ws ks)≠0 then(⟨0,cD (f.ws ks)⟩,[])
  else if o.k=14 then(⟨ct (dC (f.ws ks) f.rg) o.a,0⟩,[])
  else cM p f.M f.fn f.left (dC (f.ws ks) f.rg) f.at_ f.kd.length []
section
variable {p:List ah}{f:Fr}{ks:List aL}
theorem eO(f:Fr):f.os.length=f.kd.length-f.joined:=by simp[Fr.os]
theorem gK.ws_len(b:gK f ks):(f.ws ks).length=f.kd.length-f.joined:=by
 simp[Fr.ws,eO,b.len]
theorem De(b:gK f ks)(o:f.os.any (λc=>!c.given)=false):eo f.os=f.ws ks:=by
 apply List.ext_getElem
 ·simp[eo,b.ws_len,eO]
 ·intro i l u
  have e:i<f.os.length:=by simpa[eo] using l
  have g:f.joined+i<f.kd.length:=by rw[eO] at e;omega
  have d:f.os[i] =f.kd[f.joined+i]:=by simp[Fr.os]
  have q:f.os[i].given=true:=by
   have:=zI.1 o _ (yN e)
   simpa using this
  have hv:=b.val (f.joined+i) f.kd[f.joined+i] (ks[f.joined+i]'(by rw[b.len];exact g)) (gG g) (gG _) (by rw[<-d];exact q);simp only[eo,Fr.ws,List.getElem_map,List.getElem_zip,List.getElem_drop,d,hv]
theorem AB(p:List ah)(t:aj):gJ p (Fr.begun p t) [] =qy p t:=rfl
theorem gK.begun(p:List ah)(t:aj):gK (Fr.begun p t) []:=⟨rfl,λi c r b=>by simp[Fr.begun] at b,lR,λi c b=>by simp[Fr.begun] at b⟩
theorem gK.give(d:gK f ks){i:Nat}{r:aL}(q:ks[i]?=some r):gK (f.give i r) ks:=by
 refine⟨by simpa[Fr.give] using d.len,λj c x b e l=>?_,by simpa[Fr.give] using d.joined,λj c b o=>?_⟩
 ·simp only[Fr.give,zg] at b
  split at b
  ·rename_i g
   subst g;split at b
   ·cases b;rw[q] at e;exact yz e
   ·cases b
  ·exact d.val j c x b e l
 ·simp only[Fr.give,zg] at b
  split at b
  ·split at b
   ·cases b;rfl
   ·cases b
  ·exact d.old j c b o
theorem Ev(d:gK f ks)(i:Nat)(r:aL):(f.give i r).ws ks=f.ws ks:=by
 unfold Fr.ws
 congr 1
 apply zt;intro j;simp only[Fr.os,Fr.give,yJ,zN,zg];split
 ·rename_i c
  subst c;split
  ·rename_i b
   simp[b]
  ·rename_i b
   simp[yA b]
 ·rfl
theorem CF(b:gK f ks)(i:Nat)(r:aL):gJ p (f.give i r) ks=gJ p f ks:=by
 unfold gJ;rw[Ev b];simp[Fr.give]
theorem oF(b:gK f ks)(o:bK)(D:f.waits=none\/f.waits=some o):
 (∃f',f.joins o=(f',some .join)/\gK f' ks/\f'= {f with waits:=some o}/\∃(i:Nat) (c:cZ),f.kd[i]?=some c/\c.given=false)\/
 (∃f' r,f.joins o=(f',some (.done r))/\f'.kd=f.kd/\f'.result=some r/\(∀g:Fr,g= {f with waits:=some o}->gJ p g ks=(r,[])))\/
 (∃f',f.joins o=(f',none)/\gK f' ks/\f'.waits=none/\f'.left=f.left/\f'.M=f.M/\f'.fn=f.fn/\f'.at_=f.at_/\f'.kd=f.kd/\f'.result=f.result/\o.k≠14/\(∀g:Fr,g= {f with waits:=some o}->gJ p g ks=gJ p f' ks)):=by
 unfold Fr.joins
 by_cases u:f.os.any (λc=>!c.given)=true
 ·rw[yf u]
  refine .inl ⟨_,rfl,⟨b.len,b.val,b.joined,b.old⟩,rfl,?_⟩;obtain⟨c,A,C⟩:=zT.1 u;obtain⟨i,d⟩:=yF A;refine⟨f.joined+i,c,by simpa[Fr.os] using d,by simpa using C⟩
 ·rw[yb u]
  have v:f.os.any (λc=>!c.given)=false:=by simpa using u
  have y:=De b v
  have z:∀(i:Nat) c,f.kd[i]?=some c->c.given=true:=by
   intro i c d
   by_cases B:i<f.joined
   ·exact b.old i c d B
   ·have:f.os[i-f.joined]?=some c:=by
     simp only[Fr.os,zN];rw[show f.joined+(i-f.joined)=i by omega];exact d
    have:=zI.1 v c (yh this)
    simpa using this
  rw[y];simp only
  by_cases e:cD (f.ws ks)≠0
  ·rw[yf e]
   refine .inr (.inl ⟨_,_,rfl,rfl,rfl,λg l=>?_⟩);subst l;have:Fr.ws {f with waits:=some o} ks=f.ws ks:=rfl;simp only[gJ,this,yf e]
  ·rw[yb e]
   by_cases q:o.k=14
   ·rw[yf q]
    refine .inr (.inl ⟨_,_,rfl,rfl,rfl,λg l=>?_⟩);subst l;have:Fr.ws {f with waits:=some o} ks=f.ws ks:=rfl;simp only[gJ,this,yb e,yf q]
   ·rw[yb q]
    refine .inr (.inr ⟨_,rfl,⟨b.len,b.val,lR,λi c d _=>z i c d⟩,rfl,rfl,rfl,rfl,rfl,rfl,rfl,q,λg l=>?_⟩);subst l;have w:Fr.ws {f with waits:=some o} ks=f.ws ks:=rfl;simp only[gJ,w,yb e,yb q]
    congr 1
    simp[Fr.ws,Fr.os]
structure lO(p:List ah)(f:Fr)(ks:List aL)(x:Fr×iX):Prop where
 M:x.1.M=f.M
 fn:x.1.fn=f.fn
 mo:x.2=.more->gK x.1 ks/\gJ p x.1 ks=gJ p f ks/\x.1.result=none/\x.1.kd=f.kd/\x.1.left<f.left
 join:x.2=.join->gK x.1 ks/\gJ p x.1 ks=gJ p f ks/\x.1.result=none/\x.1.kd=f.kd/\x.1.left<=f.left/\x.1.waits≠none/\∃(i:Nat) (c:cZ),x.1.kd[i]?=some c/\c.given=false
 fork:∀t,x.2=.fork t->gK x.1 (ks++ [bw p t])/\gJ p f ks=((gJ p x.1 (ks++ [bw p t])).1,t :: (gJ p x.1 (ks++ [bw p t])).2)/\x.1.result=none/\x.1.waits=none/\
  x.1.kd.length=f.kd.length+1/\t.M=f.M++ [UInt8.ofNat (f.kd.length+1)]/\f.kd.length<16/\f.M.length<12/\x.1.left+t.fuel+1<=f.left/\(∀(i:Nat) c,f.kd[i]?=some c->x.1.kd[i]?=some c)
 done:∀r,x.2=.done r->gJ p f ks=(r,[])/\x.1.kd=f.kd/\x.1.result=some r
theorem vL(u:gK f ks)(z:f.waits=none)(E:f.result=none):lO p f ks (cz (f.step p)):=by
 have e:gJ p f ks=cM p f.M f.fn f.left f.rg f.at_ f.kd.length (f.ws ks):=by simp only[gJ,z]
 unfold Fr.step
 by_cases L:f.left=0
 ·rw[yf L]
  refine⟨rfl,rfl,λb=>(by cases b),λb=>(by cases b),λt b=>(by cases b),λr b=>?_⟩
  cases b
  rw[e,L,cM];exact⟨rfl,rfl,rfl⟩
 ·rw[yb L]
  obtain⟨l,V⟩ :∃l,f.left=l+1:=⟨f.left-1,by omega⟩
  rw[V,cM] at e;simp only[V,Nat.add_sub_cancel];simp only at e;generalize bB p f.fn f.at_=o at*
  by_cases P:o.k=12
  ·rw[yf P] at e ⊢
   unfold Fr.forks;simp only
   by_cases Q:16<=f.kd.length
   ·rw[yf Q] at e ⊢
    refine⟨rfl,rfl,λb=>(by cases b),λb=>(by cases b),λt b=>(by cases b),λr b=>?_⟩
    cases b
    exact⟨e,rfl,rfl⟩
   ·rw[yb Q] at e ⊢
    by_cases R:12<=f.M.length
    ·rw[yf R] at e ⊢
     refine⟨rfl,rfl,λb=>(by cases b),λb=>(by cases b),λt b=>(by cases b),λr b=>?_⟩
     cases b
     exact⟨e,rfl,rfl⟩
    ·rw[yb R] at e ⊢
     refine⟨rfl,rfl,λb=>(by cases b),λb=>(by cases b),λt b=>?_,λr b=>(by cases b)⟩;simp only[cz,zU,iX.fork.injEq] at b;subst b;have T:=u.joined;refine⟨⟨by simp[cz,u.len],λi c r q W S=>?_,by simp[cz];omega,λi c q w=>?_⟩,?_,E,z,by simp[cz],rfl,by omega,by omega,?_,λi c q=>?_⟩
     ·simp only[cz] at q
      rw[List.getElem?_append] at q;split at q
      ·rename_i w
       rw[yi (by rw[u.len];exact w)] at W;exact u.val i c r q W S
      ·rename_i w
       rcases hn:i-f.kd.length with _|m
       ·rw[hn] at q;simp at q;subst q;simp at S
       ·rw[hn] at q;simp at q
     ·simp only[cz] at q w
      rw[yi (by omega)] at q;exact u.old i c q w
     ·rw[e]
      simp only[cz,gJ,z];have H:bw p (dc p f.M f.kd.length o f.rg l)=(cM p (dc p f.M f.kd.length o f.rg l).M (dc p f.M f.kd.length o f.rg l).fn (l / 2) (ij p (dc p f.M f.kd.length o f.rg l).fn (dc p f.M f.kd.length o f.rg l).args) 0 0 []).1:=rfl
      have X:∀(g:Fr),g.kd=f.kd++ [⟨o.d,false,⟨0,0⟩⟩]->g.joined=f.joined->∀x,g.ws (ks++ [x])=f.ws ks++ [(o.d,x)]:=by
       intro g Z a0 x;unfold Fr.ws Fr.os;rw[Z,a0,List.drop_append_of_le_length T,List.drop_append_of_le_length (by rw[u.len];exact T),yS,List.zip_append]
       ·rfl
       ·simp[u.len]
      have Y:=X ⟨f.M,f.fn,l-l / 2,f.rg,f.at_+1,f.kd++ [⟨o.d,false,⟨0,0⟩⟩],f.joined,none,f.result⟩ rfl rfl (bw p (dc p f.M f.kd.length o f.rg l));rw[Y,H];simp
     ·simp only[cz,dc];omega
     ·simp only[cz]
      rw[yi (gS q).1];exact q
  ·rw[yb P] at e ⊢
   by_cases D:o.k=13\/o.k=14
   ·rw[yf D]
    have a1:gK {f with left:=l,at_:=f.at_+1} ks:=⟨u.len,u.val,u.joined,u.old⟩
    have K:gJ p {{f with left:=l,at_:=f.at_+1} with waits:=some o} ks=gJ p f ks:=by
     rw[e];have H:Fr.ws {f with left:=l,at_:=f.at_+1,waits:=some o} ks=f.ws ks:=rfl;simp only[gJ,H]
     by_cases C:o.k=13
     ·have v:o.k≠14:=by omega
      rw[yf C,yb v]
     ·have v:o.k=14:=by omega
      rw[yb C,yf v,yf v]
    rcases oF (p:=p) a1 o (.inl z) with⟨f',b,A,F,i,c,B,N⟩|⟨f',r,b,A,F,B⟩|⟨f',b,A,F,B,N,a3,a6,a4,a5,a7,a2⟩
    ·rw[b]
     subst F;refine⟨rfl,rfl,λb=>(by cases b),λb=>⟨A,K,E,rfl,by simp[cz];omega,by simp[cz],i,c,B,N⟩,λt b=>(by cases b),λr b=>(by cases b)⟩
    ·rw[b]
     have y:f'.M=f.M/\f'.fn=f.fn:=by
      have:=yl Prod.fst b;unfold Fr.joins at this;simp only at this;split at this
      ·subst this;exact⟨rfl,rfl⟩
      ·split at this
       ·subst this;exact⟨rfl,rfl⟩
       ·split at this<;>·subst this;exact⟨rfl,rfl⟩
     refine⟨y.1,y.2,λb=>(by cases b),λb=>(by cases b),λt b=>(by cases b),λr' b=>?_⟩
     cases b
     exact⟨by rw[<-K,B _ rfl],A,F⟩
    ·rw[b]
     refine⟨N,a3,λ_=>⟨A,by rw[<-K,a2 _ rfl];rfl,by rw[show(cz (f',none)).1=f' from rfl,a5];exact E,a4,?_⟩,λb=>(by cases b),λt b=>(by cases b),λr b=>(by cases b)⟩;show f'.left<f.left;rw[B];simp only;omega
   ·rw[yb D]
    have C:o.k≠13:=λb=>D (.inl b)
    have v:o.k≠14:=λb=>D (.inr b)
    rw[yb C,yb v] at e
    cases y:dF o f.rg (f.at_+1) with
    |none=>
     rw[y] at e;refine⟨rfl,rfl,λb=>(by cases b),λb=>(by cases b),λt b=>(by cases b),λr' b=>?_⟩
     cases b
     exact⟨e,rfl,rfl⟩
    |some x=>
     rw[y] at e;refine⟨rfl,rfl,λ_=>⟨⟨u.len,u.val,u.joined,u.old⟩,?_,E,rfl,by simp[cz];omega⟩,λb=>(by cases b),λt b=>(by cases b),λr b=>(by cases b)⟩;rw[e];simp only[cz,gJ,z];rfl
theorem jX(D:gK f ks)(E:f.result=none):lO p f ks (f.run1 p):=by
 unfold Fr.run1
 cases hw:f.waits with
 |none=>exact vL D hw E
 |some o=>
  simp only;have F:f= {f with waits:=some o}:=by cases f;simp only at hw;rw[hw]
  rcases oF (p:=p) D o (.inr hw) with⟨f',b,z,v,i,c,A,B⟩|⟨f',r,b,z,v,A⟩|⟨f',b,z,v,A,B,R,V,C,S,W,Q⟩
  ·rw[b]
   have P:f'=f:=by rw[v];exact F.symm
   subst P;exact⟨rfl,rfl,λb=>(by cases b),λb=>⟨D,rfl,E,rfl,lR,by simp[hw],i,c,A,B⟩,λt b=>(by cases b),λr b=>(by cases b)⟩
  ·rw[b]
   have N:f'.M=f.M/\f'.fn=f.fn:=by
    have:=yl Prod.fst b;unfold Fr.joins at this;simp only at this;split at this
    ·subst this;exact⟨rfl,rfl⟩
    ·split at this
     ·subst this;exact⟨rfl,rfl⟩
     ·split at this<;>·subst this;exact⟨rfl,rfl⟩
   refine⟨N.1,N.2,λb=>(by cases b),λb=>(by cases b),λt b=>(by cases b),λr' b=>?_⟩
   cases b
   exact⟨A f F,z,v⟩
  ·rw[b]
   simp only;have y:=Q f F;have l:=vL (p:=p) z v (by rw[S];exact E);refine⟨l.M.trans B,l.fn.trans R,λb=>?_,λb=>?_,λt b=>?_,λr b=>?_⟩
   ·obtain⟨d,e,g,q,w⟩:=l.mo b
    exact⟨d,e.trans y.symm,g,q.trans C,by omega⟩
   ·obtain⟨d,e,g,q,w,u⟩:=l.join b
    exact⟨d,e.trans y.symm,g,q.trans C,by omega,u⟩
   ·obtain⟨d,e,g,q,w,u,K,L,T,H⟩:=l.fork t b
    rw[C] at w u K H;rw[B] at u L;exact⟨d,y.trans e,g,q,w,u,K,L,by omega,H⟩
   ·obtain⟨d,e,g⟩:=l.done r b
    exact⟨y.trans d,e.trans C,g⟩
end
def bM(p:List ah):aj->List UInt8->Option aj
 |t,[]=>some t
 |t,c :: l=>if c=0 then none else match (aR p t)[c.toNat-1]? with
  |none=>none
  |some k=>bM p k l
section
variable {p:List ah}
theorem eS{i:Nat}(b:i<16):(UInt8.ofNat (i+1)).toNat=i+1:=by
 simp;omega
theorem Db{i:Nat}(c:i<16):UInt8.ofNat (i+1)≠0:=by
 intro b;have:=yl UInt8.toNat b;rw[eS c] at this;simp at this
theorem io:∀(l:List UInt8) (t u:aj),bM p t l=some u->u.M=t.M++l
 | [],t,u,b=>by cases b;simp
 |c :: l,t,u,b=>by
  unfold bM at b;split at b
  ·cases b
  ·rename_i q
   cases hk:(aR p t)[c.toNat-1]? with
   |none=>rw[hk] at b;cases b
   |some k=>
    rw[hk] at b;have e:=dJ hk;have g:=io l k u b
    have o:UInt8.ofNat (c.toNat-1+1)=c:=by
     have:c.toNat≠0:=λd=>q (UInt8.toNat_inj.1 (by simpa using d))
     rw[show c.toNat-1+1=c.toNat by omega];simp
    rw[g,e.1,o,yY];rfl
theorem lr:∀(l m:List UInt8) (t:aj),bM p t (l++m)=(bM p t l).bind λu=>bM p u m
 | [],m,t=>rfl
 |c :: l,m,t=>by
  simp only[Ye,bM];split
  ·rfl
  ·cases (aR p t)[c.toNat-1]? with
   |none=>rfl
   |some k=>exact lr l m k
theorem rk{t k:aj}{i:Nat}(b:(aR p t)[i]?=some k):bM p t [UInt8.ofNat (i+1)] =some k:=by
 have c:=(dJ b).2.1;simp only[bM,yb (Db c),eS c,Nat.add_sub_cancel,b]
theorem mI{t u k:aj}{l:List UInt8}{i:Nat}(b:bM p t l=some u)(c:(aR p u)[i]?=some k):bM p t (l++ [UInt8.ofNat (i+1)])=some k:=by
 rw[lr,b];exact rk c
theorem pY{t k:aj}{l:List UInt8}{c:UInt8}(b:bM p t (l++ [c])=some k):∃(u:aj) (i:Nat),bM p t l=some u/\(aR p u)[i]?=some k/\c=UInt8.ofNat (i+1):=by
 rw[lr] at b
 cases hu:bM p t l with
 |none=>rw[hu] at b;cases b
 |some u=>
  rw[hu] at b;simp only[Option.bind_some,bM] at b;split at b
  ·cases b
  ·rename_i e
   cases hk:(aR p u)[c.toNat-1]? with
   |none=>rw[hk] at b;cases b
   |some g=>
    rw[hk] at b
    cases b
    refine⟨u,c.toNat-1,rfl,hk,?_⟩;have:c.toNat≠0:=λd=>e (UInt8.toNat_inj.1 (by simpa using d))
    rw[show c.toNat-1+1=c.toNat by omega];simp
theorem jT:∀(n:Nat) (t:aj),t.fuel<=n->∀x:eC,x∈aF p t↔∃l u,bM p t l=some u/\x=⟨u,bw p u,(aR p u).length⟩:=by
 intro n
 induction n with
 |zero=>
  intro t y x
  have d:aR p t= []:=by
   rcases b:aR p t with _|⟨k,l⟩
   ·rfl
   ·have:=fG (p:=p) (t:=t) (k:=k) (by rw[b];simp)
    omega
  rw[ev,d];simp only[List.flatMap_nil,yw];constructor
  ·rintro rfl
   exact⟨[],t,rfl,by rw[d]⟩
  ·rintro ⟨l,u,b,rfl⟩
   cases l with
   |nil=>cases b;rw[d]
   |cons c l=>
    simp only[bM,d] at b;split at b<;>simp at b
 |succ n g=>
  intro t y x;rw[ev,yG,List.mem_flatMap];constructor
  ·rintro (rfl|⟨k,d,z⟩)
   ·exact⟨[],t,rfl,rfl⟩
   ·have v:=fG d
    obtain⟨l,u,o,q⟩:=(g k (by omega) x).1 z;obtain⟨i,w⟩:=yF d;refine⟨UInt8.ofNat (i+1) :: l,u,?_,q⟩;rw[show UInt8.ofNat (i+1) :: l= [UInt8.ofNat (i+1)] ++l from rfl,lr,rk w];exact o
  ·rintro ⟨l,u,b,rfl⟩
   cases l with
   |nil=>cases b;exact .inl rfl
   |cons c l=>
    simp only[bM] at b;split at b
    ·cases b
    ·cases d:(aR p t)[c.toNat-1]? with
     |none=>rw[d] at b;cases b
     |some k=>
      rw[d] at b;have e:=yh d;have v:=fG e;exact .inr ⟨k,e,(g k (by omega) _).2 ⟨l,u,b,rfl⟩⟩
theorem sC(p:List ah):∀(n:Nat) (t:aj),t.fuel<=n->(aF p t).length<=t.fuel+1:=by
 intro n
 induction n with
 |zero=>
  intro t d
  have b:aR p t= []:=by
   rcases h:aR p t with _|⟨k,l⟩
   ·rfl
   ·have:=fG (p:=p) (t:=t) (k:=k) (by rw[h];simp)
    omega
  rw[ev,b];simp
 |succ n g=>
  intro t d;rw[ev,zo,List.length_flatMap];have e:=AZ p t
  have:((aR p t).map λk=>(aF p k).length).sum<=((aR p t).map λk=>k.fuel+1).sum:=by
   have c:∀k∈aR p t,(aF p k).length<=k.fuel+1:=λk b=>g k (by have:=fG b;omega)
   generalize aR p t=ks at c;clear e
   induction ks with
   |nil=>simp
   |cons k ks o=>
    simp only[zc,zH];have:=c k (by simp);have:=o λk b=>c k (by simp[b])
    omega
  omega
theorem mJ(p:List ah):∀(n:Nat) (t:aj),t.fuel<=n->((aF p t).map λx=>x.tk.M).Nodup:=by
 intro n
 induction n with
 |zero=>
  intro t B
  have b:aR p t= []:=by
   rcases h:aR p t with _|⟨k,l⟩
   ·rfl
   ·have:=fG (p:=p) (t:=t) (k:=k) (by rw[h];simp)
    omega
  rw[ev,b];simp
 |succ n E=>
  intro t B;rw[ev,zc,List.nodup_cons]
  have o:∀k∈aR p t,∀y∈(aF p k).map (λx=>x.tk.M),∃l,y=k.M++l:=by
   intro k b y d;obtain⟨x,C,rfl⟩:=yL.1 d;obtain⟨l,u,e,rfl⟩:=(jT k.fuel k (lR) x).1 C;exact⟨l,io l k u e⟩
  refine⟨?_,?_⟩
  ·intro c
   rw[List.map_flatMap,List.mem_flatMap] at c;obtain⟨k,b,d⟩:=c;obtain⟨l,w⟩:=o k b _ d;obtain⟨i,g⟩:=yF b;rw[(dJ g).1] at w;have:=yl List.length w;simp at this
  ·rw[List.map_flatMap,List.Nodup,List.pairwise_flatMap]
   refine⟨λk b=>E k (by have:=fG b;omega),?_⟩;rw[List.pairwise_iff_getElem];intro i j g v F y d z D A;obtain⟨l,rfl⟩:=o _ (yN g) y d;obtain⟨m,c⟩:=o _ (yN v) z D;have e:=dJ (gG g);have q:=dJ (gG v);rw[<-A,e.1,q.1,yY,yY,List.append_cancel_left_eq] at c;simp only[List.singleton_append,List.cons.injEq] at c;have:=yl UInt8.toNat c.1;rw[eS e.2.1,eS q.2.1] at this;omega
end
open Classical
structure Nm where
 job:Int
 M:List UInt8
def aH(n:Nm)(i:Nat):Nm:=⟨n.job,n.M++ [UInt8.ofNat (i+1)]⟩
def dL(n:Nm):Nm:=⟨n.job,n.M.dropLast⟩
structure aG where
 tk:aj
 sa:Nat
 opn:Int
 res:aL
 fk:Bool
 kn:Nat
 here:Bool
noncomputable def ax{α:Type}(f:Nm->α)(n:Nm)(x:α):Nm->α:=λm=>if m=n then x else f m
theorem ay{α:Type}(f:Nm->α)(n:Nm)(x:α):ax f n x n=x:=by simp[ax]
theorem ag{α:Type}(f:Nm->α){n m:Nm}(x:α)(b:m≠n):ax f n x m=f m:=by simp[ax,b]
structure TS where
 rw:Nm->Option aG
 ks:List Nm
 fm:Nm->Option Fr
 hist:List (Nm×Nat×aL)
 outs:Nm->Prop
abbrev dg:=Int->Option (List ah×aj)
def cI(rows:Nm->Option aG)(n:Nm):Bool:=
 match rows n with
 |none=>false
 |some r=>decide (r.sa≠6)
def dY(rows:Nm->Option aG)(n:Nm)(kn:Nat):Nat:=((List.range kn).filter λi=>cI rows (aH n i)).length
def jB(p:List ah)(t:aj)(kn:Nat):List aL:=((aR p t).take kn).map (bw p)
structure kz(p:List ah)(r:aG)(f:Fr):Prop where
 M:f.M=r.tk.M
 fn:f.fn=r.tk.fn
 res:f.result=none
 kd:f.kd.length=r.kn
 ok:gK f (jB p r.tk r.kn)
 fin_:gJ p f (jB p r.tk r.kn)=(bw p r.tk,(aR p r.tk).drop r.kn)
structure wj(p:List ah)(t:TS)(n:Nm)(r:aG):Prop where
 lo:1<=r.sa/\r.sa<=6
 idle:r.sa=1\/r.sa=5->r.kn=0/\t.fm n=none
 runs:r.sa=2\/r.sa=3\/r.sa=4->∃f,t.fm n=some f/\kz p r f/\(r.sa≠2->f.waits≠none)
 waits:r.sa=3->0<r.opn
 over:r.sa=6->t.fm n=none/\r.res=bw p r.tk/\(r.here=true->r.kn=(aR p r.tk).length)/\(r.here=false->r.kn=0)
 O:t.outs n↔r.sa=5\/(r.sa=6/\r.here=false)
structure FU(G:dg)(t:TS)(n:Nm)(r:aG):Prop where
 node:∃p x,G n.job=some (p,x)/\bM p x n.M=some r.tk/\wj p t n r
 up:(r.fk=false/\n.M= [])\/(r.fk=true/\∃m i q,n=aH m i/\t.rw m=some q/\i<q.kn)
 down:∀i,i<r.kn->t.rw (aH n i)≠none
 opn:r.opn=(dY t.rw n r.kn:Int)
 kn:r.kn<=16
structure cA(G:dg)(t:TS):Prop where
 nodup:t.ks.Nodup
 ks:∀n,n∈t.ks↔t.rw n≠none
 none_:∀n,t.rw n=none->t.fm n=none
 row:∀n r,t.rw n=some r->FU G t n r
 hnodup:(t.hist.map (·.1)).Nodup
 hist:∀n k x,(n,k,x)∈t.hist↔∃r,t.rw n=some r/\r.sa=6/\r.here=true/\k=r.kn/\x=r.res
 roots:∀j p x,G j=some (p,x)->x.M= []
section
variable {G:dg}{t t':TS}{n m:Nm}{r:aG}
theorem ny{n m:Nm}{i j:Nat}(q:i<16)(u:j<16)(c:aH n i=aH m j):n=m/\i=j:=by
 obtain⟨a,l⟩:=n;obtain⟨b,k⟩:=m;simp only[aH,Nm.mk.injEq] at c;obtain⟨e,g⟩:=c;have d:=List.append_inj' g rfl;have o:=yl UInt8.toNat (List.cons.inj d.2).1;rw[eS q,eS u] at o;exact⟨by rw[e,d.1],by omega⟩
theorem iy(n:Nm)(i:Nat):aH n i≠n:=by
 intro b;have:=yl (λx:Nm=>x.M.length) b;simp[aH] at this
theorem lG(n:Nm)(i:Nat):dL (aH n i)=n:=by
 obtain⟨a,l⟩:=n;simp[dL,aH]
theorem qt(n:Nm)(i:Nat):(aH n i).job=n.job:=rfl
theorem jk(n:Nm)(i:Nat):(aH n i).M≠[]:=by simp[aH]
theorem ip{rows rows':Nm->Option aG}{n:Nm}{kn:Nat}(b:∀i,i<kn->cI rows' (aH n i)=cI rows (aH n i)):dY rows' n kn=dY rows n kn:=by
 unfold dY
 congr 1
 apply List.filter_congr;intro i c;exact b i (zw.1 c)
theorem lu{rows:Nm->Option aG}{n:Nm}{kn:Nat}:dY rows n (kn+1)=dY rows n kn+(if cI rows (aH n kn)=true then 1 else 0):=by
 unfold dY;rw[List.range_succ,List.filter_append,yk]
 congr 1
 by_cases b:cI rows (aH n kn)=true<;>simp[b]
theorem rn{rows rows':Nm->Option aG}{n:Nm}:∀{kn i:Nat},i<kn->(∀j,j<kn->j≠i->cI rows' (aH n j)=cI rows (aH n j))->cI rows (aH n i)=true->cI rows' (aH n i)=false->
 dY rows n kn=dY rows' n kn+1
 |0,i,e,_,_,_=>by omega
 |kn+1,i,e,b,c,d=>by
  rw[lu,lu]
  by_cases g:i=kn
  ·subst g
   rw[c,d];rw[ip (rows:=rows) (rows':=rows') λj l=>b j (by omega) (by omega)];simp
  ·have q:=rn (rows:=rows) (rows':=rows') (n:=n) (kn:=kn) (i:=i) (by omega) (λj l o=>b j (by omega) o) c d
   rw[b kn (by omega) (by omega),q];omega
theorem sF{rows:Nm->Option aG}{n:Nm}{kn:Nat}(b:0<dY rows n kn):∃i,i<kn/\cI rows (aH n i)=true:=by
 unfold dY at b;obtain⟨i,e⟩:=List.exists_mem_of_length_pos b;obtain⟨c,d⟩:=Yg.1 e;exact⟨i,zw.1 c,d⟩
theorem C6{p:List ah}{t k:aj}{kn i:Nat}(b:i<kn)(c:(aR p t)[i]?=some k):(jB p t kn)[i]?=some (bw p k):=by
 simp[jB,b,c]
theorem kz.knle{p:List ah}{f:Fr}(b:kz p r f):r.kn<=(aR p r.tk).length:=by
 have:=b.ok.len;rw[b.kd] at this;simp only[jB,zY,ze] at this;omega
theorem cA.child(d:cA G t){i:Nat}(F:t.rw n=some r)(A:i<r.kn):∃p x c k,G n.job=some (p,x)/\t.rw (aH n i)=some c/\(aR p r.tk)[i]?=some k/\c.tk=k/\k.M=(aH n i).M/\c.fk=true:=by
 have g:=d.row n r F;obtain⟨p,x,l,w,H⟩:=g.node;have z:=g.down i A
 cases hc:t.rw (aH n i) with
 |none=>exact absurd hc z
 |some c=>
  have q:=d.row _ c hc;obtain⟨L,N,v,D,K⟩:=q.node;rw[qt,l] at v
  cases v
  obtain⟨u,j,o,e,y⟩:=pY D;rw[w] at o
  cases o
  have C:=(dJ e).2.1
  have B:i=j:=by
   have:=yl UInt8.toNat y;rw[eS (by have:=g.kn;omega),eS C] at this;omega
  subst B;have E:=(dJ e).1;refine⟨p,x,c,c.tk,l,rfl,e,rfl,?_,?_⟩
  ·rw[E]
   have:=io _ _ _ w;rw[d.roots _ _ _ l] at this;simp only[List.nil_append] at this;rw[this];rfl
  ·rcases q.up with⟨_,b⟩|⟨b,_⟩
   ·exact absurd b (jk _ _)
   ·exact b
theorem cA.M(b:cA G t)(e:t.rw n=some r):r.tk.M=n.M:=by
 obtain⟨p,x,c,d,_⟩:=(b.row n r e).node;have:=io _ _ _ d;rw[b.roots _ _ _ c] at this
 simpa using this
theorem cA.parent(c:cA G t)(l:t.rw n=some r)(e:r.fk=true):∃i q,n=aH (dL n) i/\t.rw (dL n)=some q/\i<q.kn/\i<16:=by
 rcases(c.row n r l).up with⟨b,_⟩|⟨_,m,i,q,rfl,d,g⟩
 ·rw[e] at b;cases b
 ·rw[lG]
  exact⟨i,q,rfl,d,g,by have:=(c.row m q d).kn;omega⟩
end
section
variable {G:dg}{t t':TS}{n m:Nm}{r r':aG}
theorem cA.turn(d:cA G t)(v:t.rw n=some r)(V:r'.tk=r.tk)(Q:r'.fk=r.fk)(A:r'.kn=r.kn)(R:r'.opn=r.opn)(K:r.sa≠6)(L:r'.sa≠6)
 (H:Option Fr) (P:Prop) (T:∀p x,G n.job=some (p,x)->bM p x n.M=some r.tk->wj p t n r->wj p {t with rw:=ax t.rw n (some r'),fm:=ax t.fm n H,outs:=ax t.outs n P} n r'):
 cA G {t with rw:=ax t.rw n (some r'),fm:=ax t.fm n H,outs:=ax t.outs n P}:=by
 have N:∀m,cI (ax t.rw n (some r')) m=cI t.rw m:=by
  intro m
  by_cases b:m=n
  ·subst b
   simp[cI,ay,v,K,L]
  ·simp only[cI,ag _ _ b]
 have D:∀m,ax t.rw n (some r') m≠none↔t.rw m≠none:=by
  intro m
  by_cases b:m=n
  ·subst b;simp[ay,v]
  ·rw[ag _ _ b]
 refine⟨d.nodup,λm=>by rw[d.ks];exact(D m).symm,λm C=>?_,λm q E=>?_,d.hnodup,λm k x=>?_,d.roots⟩
 ·by_cases b:m=n
  ·subst b;simp[ay] at C
  ·simp only[ag _ _ b] at C ⊢
   exact d.none_ m C
 ·have Y:∀i W,m=aH i W->True:=λ_ _ _=>trivial
  by_cases b:m=n
  ·subst b
   simp only[ay,yC] at E;subst E;have c:=d.row m r v;obtain⟨p,x,y,B,e⟩:=c.node;refine⟨⟨p,x,y,by rw[V];exact B,T p x y B e⟩,?_,λi z=>?_,?_,by rw[A];exact c.kn⟩
   ·rw[Q]
    rcases c.up with g|⟨g,k,i,q,l,o,w⟩
    ·exact .inl g
    ·refine .inr ⟨g,k,i,q,l,?_,w⟩
     show ax t.rw m (some r') k=some q;rw[ag _ _ (λb=>iy k i (by rw[<-l,b]))];exact o
   ·rw[A] at z
    exact(D _).2 (c.down i z)
   ·show r'.opn=(dY (ax t.rw m (some r')) m r'.kn:Int)
    rw[R,A,ip (rows:=t.rw) λi _=>N _];exact c.opn
  ·have S:t.rw m=some q:=by simpa only[ag _ _ b] using E
   have c:=d.row m q S;obtain⟨p,x,y,B,e⟩:=c.node;refine⟨⟨p,x,y,B,e.lo,λu=>?_,λu=>?_,e.waits,λu=>?_,?_⟩,?_,λi z=>(D _).2 (c.down i z),?_,c.kn⟩
   ·simp only[ag _ _ b];exact e.idle u
   ·simp only[ag _ _ b];exact e.runs u
   ·simp only[ag _ _ b];exact e.over u
   ·simp only[ag _ _ b];exact e.O
   ·rcases c.up with g|⟨g,k,i,X,l,o,w⟩
    ·exact .inl g
    ·refine .inr ⟨g,k,i,?_⟩
     by_cases F:k=n
     ·subst F
      rw[v] at o
      cases o
      exact⟨r',l,ay _ _ _,by rw[A];exact w⟩
     ·exact⟨X,l,by simp only[ag _ _ F];exact o,w⟩
   ·show q.opn=(dY (ax t.rw n (some r')) m q.kn:Int)
    rw[ip (rows:=t.rw) λi _=>N _];exact c.opn
 ·rw[d.hist]
  by_cases b:m=n
  ·subst b
   simp only[ay,v,yC];constructor
   ·rintro ⟨_,rfl,b,_⟩;exact absurd b K
   ·rintro ⟨_,rfl,b,_⟩;exact absurd b L
  ·simp only[ag _ _ b]
theorem jZ{α:Type}(f:Nm->α)(n:Nm):ax f n (f n)=f:=by
 funext m
 by_cases b:m=n
 ·subst b;rw[ay]
 ·rw[ag _ _ b]
noncomputable def gV(p:List ah)(t:TS)(n:Nm)(r:aG):TS:=
 {t with rw:=ax t.rw n (some {r with sa:=2}),fm:=ax t.fm n (some ((t.fm n).getD (Fr.begun p r.tk)))}
theorem cA.begin_(u:cA G t)(w:t.rw n=some r)(b:r.sa=1\/r.sa=4){p:List ah}{x:aj}(v:G n.job=some (p,x)):cA G (gV p t n r):=by
 have d:gV p t n r= {t with rw:=ax t.rw n (some {r with sa:=2}),fm:=ax t.fm n (some ((t.fm n).getD (Fr.begun p r.tk))),outs:=ax t.outs n (t.outs n)}:=by
  rw[jZ];rfl
 rw[d];refine u.turn (r':={r with sa:=2}) w rfl rfl rfl rfl (by omega) (by simp) _ _ λz A o y l=>?_
 rw[v] at o
 cases o
 refine⟨by simp,λe=>by simp at e,λ_=>?_,λe=>by simp at e,λe=>by simp at e,?_⟩
 ·simp only[ay]
  rcases b with b|b
  ·obtain⟨g,c⟩:=l.idle (.inl b)
   rw[c];refine⟨_,rfl,⟨rfl,rfl,rfl,by simp[Fr.begun,g],?_,?_⟩,λd=>absurd rfl d⟩
   ·simp only[g,jB,List.take_zero,Yk]
    exact gK.begun p r.tk
   ·simp only[g,jB,List.take_zero,Yk,List.drop_zero]
    exact AB p r.tk
  ·obtain⟨f,g,c,_⟩:=l.runs (.inr (.inr b))
   rw[g];exact⟨f,rfl,⟨c.M,c.fn,c.res,c.kd,c.ok,c.fin_⟩,λd=>absurd rfl d⟩
 ·have q:ax t.outs n (t.outs n) n=t.outs n:=ay _ _ _
  show ax t.outs n (t.outs n) n↔_;rw[q,l.O]
  rcases b with b|b<;>simp[b]
noncomputable def iQ(t:TS)(n:Nm)(r:aG)(st:Nat)(f:Fr):TS:=
 {t with rw:=ax t.rw n (some {r with sa:=st}),fm:=ax t.fm n (some f)}
theorem cA.goes(u:cA G t)(z:t.rw n=some r)(g:r.sa=2){st:Nat}(A:st=2\/st=3){f:Fr}(l:st=3->0<r.opn/\f.waits≠none)
 (v:∀p x d,G n.job=some (p,x)->bM p x n.M=some r.tk->t.fm n=some d->kz p r d->kz p r f):cA G (iQ t n r st f):=by
 have o:iQ t n r st f= {t with rw:=ax t.rw n (some {r with sa:=st}),fm:=ax t.fm n (some f),outs:=ax t.outs n (t.outs n)}:=by
  rw[jZ];rfl
 rw[o];refine u.turn (r':={r with sa:=st}) z rfl rfl rfl rfl (by omega) (by simp only;omega) _ _ λp x w y e=>?_
 obtain⟨d,B,C,_⟩:=e.runs (.inl g);have c:=v p x d w y B C;refine⟨by simp only;omega,λb=>by simp only at b;omega,λ_=>?_,λb=>(l b).1,λb=>by simp only at b;omega,?_⟩
 ·simp only[ay]
  exact⟨f,rfl,⟨c.M,c.fn,c.res,c.kd,c.ok,c.fin_⟩,λb=>(l (by omega)).2⟩
 ·have q:ax t.outs n (t.outs n) n=t.outs n:=ay _ _ _
  show ax t.outs n (t.outs n) n↔_;rw[q,e.O]
  rcases A with rfl|rfl<;>simp[g]
end
section
variable {G:dg}{t t':TS}{n m:Nm}{r r':aG}
theorem cA.fresh(d:cA G t)(o:t.rw n=some r)(l:r.kn<16):t.rw (aH n r.kn)=none:=by
 cases hc:t.rw (aH n r.kn) with
 |none=>rfl
 |some c=>
  rcases(d.row _ c hc).up with⟨_,e⟩|⟨_,m,i,q,g,b,u⟩
  ·exact absurd e (jk _ _)
  ·have:=(d.row m q b).kn
   obtain⟨rfl,rfl⟩:=ny l (by omega) g;rw[o] at b
   cases b
   omega
noncomputable def bQ(t:TS)(n:Nm)(r:aG)(f:Fr)(c:aG):TS:=
 {t with rw:=ax (ax t.rw n (some {r with opn:=r.opn+(if c.sa=6 then 0 else 1),kn:=r.kn+1})) (aH n r.kn) (some c),ks:=t.ks++ [aH n r.kn],fm:=ax t.fm n (some f)}
theorem cA.fork(o:cA G t)(D:t.rw n=some r)(aE:r.sa=2){f:Fr}{c:aG}{p:List ah}{x k:aj}(S:G n.job=some (p,x))(a6:(aR p r.tk)[r.kn]?=some k)
 (ar:kz p {r with opn:=r.opn+(if c.sa=6 then 0 else 1),kn:=r.kn+1} f) (a4:c.tk=k) (am:c.fk=true) (X:c.kn=0) (an:c.opn=0) (W:c.here=false)
 (e:c.sa=1/\¬t.outs (aH n r.kn)\/c.sa=5/\t.outs (aH n r.kn)\/c.sa=6/\t.outs (aH n r.kn)/\c.res=bw p k):cA G (bQ t n r f c):=by
 have T:r.kn<16:=(dJ a6).2.1;have P:=o.fresh D T;have az:n≠aH n r.kn:=λd=>iy n r.kn d.symm
 have F:(bQ t n r f c).rw n=some {r with opn:=r.opn+(if c.sa=6 then 0 else 1),kn:=r.kn+1}:=by
  simp only[bQ];rw[ag _ _ az,ay]
 have E:(bQ t n r f c).rw (aH n r.kn)=some c:=by simp only[bQ];rw[ay]
 have B:∀m,m≠n->m≠aH n r.kn->(bQ t n r f c).rw m=t.rw m:=λm g a9=>by simp only[bQ];rw[ag _ _ a9,ag _ _ g]
 have av:(bQ t n r f c).fm n=some f:=by simp only[bQ];rw[ay]
 have N:∀m,m≠n->(bQ t n r f c).fm m=t.fm m:=λm g=>by simp only[bQ];rw[ag _ _ g]
 have Z:(bQ t n r f c).outs=t.outs:=rfl
 have a7:∀m,m≠aH n r.kn->cI (bQ t n r f c).rw m=cI t.rw m:=by
  intro m u
  by_cases d:m=n
  ·subst d
   simp only[cI,F,D]
  ·simp only[cI,B m d u]
 have Y:∀m,t.rw m≠none->(bQ t n r f c).rw m≠none:=by
  intro m u
  by_cases d:m=n
  ·subst d;rw[F];simp
  ·by_cases l:m=aH n r.kn
   ·subst l;rw[E];simp
   ·rw[B m d l];exact u
 have ad:∀m q,t.rw m=some q->m≠n->dY (bQ t n r f c).rw m q.kn=dY t.rw m q.kn:=by
  intro m q z u;refine ip λi Q=>a7 _ λd=>?_
  have:=(o.row m q z).kn;exact u (ny (by omega) T d).1
 generalize a8:bQ t n r f c=t' at*;have a3:t'.ks=t.ks++ [aH n r.kn]:=by rw[<-a8];rfl
 have a1:t'.hist=t.hist:=by rw[<-a8];rfl
 refine⟨?_,λm=>?_,λm u=>?_,λm q z=>?_,by rw[a1];exact o.hnodup,λm b1 V=>?_,o.roots⟩
 ·rw[a3,zy]
  refine⟨o.nodup,by simp,λa ai b al d=>?_⟩;rw[yw.1 al] at d;subst d;exact(o.ks _).1 ai P
 ·rw[a3,yH,yw,o.ks]
  constructor
  ·rintro (g|rfl)
   ·exact Y m g
   ·rw[E];simp
  ·intro g
   by_cases l:m=aH n r.kn
   ·exact .inr l
   ·by_cases d:m=n
    ·subst d;rw[D];exact .inl (by simp)
    ·rw[B m d l] at g;exact .inl g
 ·have d:m≠n:=λd=>by subst d;rw[F] at u;cases u
  have l:m≠aH n r.kn:=λd=>by subst d;rw[E] at u;cases u
  rw[B m d l] at u;rw[N m d];exact o.none_ m u
 ·by_cases l:m=aH n r.kn
  ·subst l
   rw[E] at z
   cases z
   obtain⟨a0,V,C,R,_⟩:=(o.row n r D).node;rw[S] at C
   cases C
   have a5:t'.fm (aH n r.kn)=none:=by rw[N _ (iy _ _)];exact o.none_ _ P
   refine⟨⟨p,x,S,by rw[a4];exact mI R a6,by omega,λ_=>⟨X,a5⟩,λd=>by omega,λd=>by omega,λd=>⟨a5,?_,λd=>?_,λ_=>X⟩,?_⟩,.inr ⟨am,n,r.kn,_,rfl,F,by simp⟩,λi T=>by omega,?_,by omega⟩
   ·rcases e with e|e|e
    ·omega
    ·omega
    ·rw[e.2.2,a4]
   ·rw[W] at d;cases d
   ·rw[Z]
    rcases e with e|e|e
    ·simp[e.1,e.2]
    ·simp[e.1,e.2]
    ·simp[e.1,e.2.1,W]
   ·rw[an,X];rfl
  ·by_cases d:m=n
   ·subst d
    rw[F] at z
    cases z
    have v:=o.row m r D;obtain⟨a0,V,C,R,A⟩:=v.node;rw[S] at C
    cases C
    refine⟨⟨p,x,S,R,A.lo,λd=>by simp only at d;omega,λ_=>⟨f,av,ar,λd=>absurd aE d⟩,λd=>by simp only at d;omega,λd=>by simp only at d;omega,by rw[Z];exact A.O⟩,?_,λi Q=>?_,?_,by simp only;omega⟩
    ·rcases v.up with H|⟨H,K,i,q,L,w,y⟩
     ·exact .inl H
     ·refine .inr ⟨H,K,i,q,L,?_,y⟩
      rw[B K (λd=>iy K i (by rw[<-L,d])) (λd=>by rw[d,P] at w;cases w)];exact w
    ·simp only at Q
     by_cases aw:i=r.kn
     ·subst aw;rw[E];simp
     ·exact Y _ (v.down i (by omega))
    ·simp only
     rw[lu,v.opn,ip (rows:=t.rw) λi Q=>a7 _ λd=>by have:=(ny (by omega) T d).2;omega];have:cI t'.rw (aH m r.kn)=decide (c.sa≠6):=by simp only[cI,E]
     rw[this]
     by_cases ab:c.sa=6<;>simp[ab]
   ·rw[B m d l] at z
    have v:=o.row m q z;obtain⟨a0,V,C,R,A⟩:=v.node;refine⟨⟨a0,V,C,R,A.lo,λg=>by rw[N m d];exact A.idle g,λg=>by rw[N m d];exact A.runs g,A.waits,λg=>by rw[N m d];exact A.over g,by rw[Z];exact A.O⟩,?_,λi Q=>Y _ (v.down i Q),by rw[ad m q z d];exact v.opn,v.kn⟩
    rcases v.up with H|⟨H,K,i,b0,L,w,y⟩
    ·exact .inl H
    ·refine .inr ⟨H,K,i,?_⟩
     by_cases a2:K=n
     ·subst a2
      rw[D] at w
      cases w
      exact⟨_,L,F,by simp only;omega⟩
     ·exact⟨b0,L,by rw[B K a2 (λd=>by rw[d,P] at w;cases w)];exact w,y⟩
 ·rw[a1,o.hist]
  by_cases l:m=aH n r.kn
  ·subst l
   rw[P,E];constructor
   ·rintro ⟨_,d,_⟩;cases d
   ·rintro ⟨_,d,_,y,_⟩;cases d;rw[W] at y;cases y
  ·by_cases d:m=n
   ·subst d
    rw[D,F];constructor
    ·rintro ⟨_,d,y,_⟩;cases d;omega
    ·rintro ⟨_,d,y,_⟩;cases d;simp only at y;omega
   ·rw[B m d l]
noncomputable def fz(q:aG):aG:={q with opn:=q.opn-1,sa:=if q.sa=3/\q.opn-1=0 then 4 else q.sa}
noncomputable def bI(t:TS)(n:Nm)(r:aG)(x:aL)(here:Bool):TS:=
 {t with
  rw:=match r.fk,t.rw (dL n) with
   |true,some q=>ax (ax t.rw n (some {r with sa:=6,res:=x,here:=here})) (dL n) (some (fz q))
   |_,_=>ax t.rw n (some {r with sa:=6,res:=x,here:=here}),
  fm:=ax t.fm n none,
  hist:=if here then t.hist++ [(n,r.kn,x)] else t.hist}
theorem cA.over(u:cA G t)(w:t.rw n=some r){x:aL}{here:Bool}{p:List ah}{y:aj}(aE:G n.job=some (p,y))(bq:x=bw p r.tk)(D:here=true/\r.sa=2/\r.kn=(aR p r.tk).length\/here=false/\r.sa=5):
 cA G (bI t n r x here):=by
 have Q:=u.row n r w;obtain⟨bv,bx,b0,bb,b3⟩:=Q.node;rw[aE] at b0
 cases b0
 have a5:r.sa≠6:=by omega
 obtain⟨a9,E⟩:=eX ({r with sa:=6,res:=x,here:=here}:aG)
 have K:(bI t n r x here).rw n=some a9:=by
  simp only[bI]
  cases g:r.fk with
  |false=>simp only[ay,E,g]
  |true=>
   obtain⟨i,q',v,e,A,N⟩:=u.parent w g;simp only[e];rw[ag _ _ (λc=>iy (dL n) i (by rw[<-v,<-c])),ay,E,g]
 have Y:∀m,m≠n->(r.fk=true->m≠dL n)->(bI t n r x here).rw m=t.rw m:=by
  intro m d o;simp only[bI]
  cases g:r.fk with
  |false=>simp only[ag _ _ d]
  |true=>
   obtain⟨i,q',v,e,A,N⟩:=u.parent w g;simp only[e];rw[ag _ _ (o g),ag _ _ d]
 have a0:∀q,r.fk=true->t.rw (dL n)=some q->(bI t n r x here).rw (dL n)=some (fz q):=by
  intro q g F;simp only[bI,g,F,ay]
 have ba:(bI t n r x here).fm n=none:=by simp only[bI,ay]
 have T:∀m,m≠n->(bI t n r x here).fm m=t.fm m:=λm d=>by simp only[bI];rw[ag _ _ d]
 have a4:(bI t n r x here).outs=t.outs:=rfl;have an:(bI t n r x here).ks=t.ks:=rfl;have ad:(bI t n r x here).hist=if here then t.hist++ [(n,r.kn,x)] else t.hist:=rfl
 generalize bI t n r x here=t' at*
 have a7:∀q:aG,(fz q).sa=6↔q.sa=6:=by
  intro q;simp only[fz];split
  ·omega
  ·rfl
 have b2:∀m,m≠n->cI t'.rw m=cI t.rw m:=by
  intro m L
  by_cases c:r.fk=true/\m=dL n
  ·obtain⟨i,q,v,e,A,N⟩:=u.parent w c.1
   rw[c.2];simp only[cI,a0 q c.1 e,e];simp[a7]
  ·simp only[cI,Y m L (λg H=>c ⟨g,H⟩)]
 have bf:cI t'.rw n=false:=by simp[cI,K,E]
 have bm:cI t.rw n=true:=by simp[cI,w,a5]
 have X:∀m,t'.rw m≠none↔t.rw m≠none:=by
  intro m
  by_cases c:m=n
  ·subst c;rw[K,w];simp
  ·by_cases e:r.fk=true/\m=dL n
   ·obtain⟨i,q,v,ab,A,N⟩:=u.parent w e.1
    rw[e.2,a0 q e.1 ab,ab];simp
   ·rw[Y m c (λg H=>e ⟨g,H⟩)]
 have av:∀m q,t.rw m=some q->(∀i,i<q.kn->aH m i≠n)->dY t'.rw m q.kn=dY t.rw m q.kn:=λm q F L=>ip λi R=>b2 _ (L i R)
 have a6:∀(m:Nm) (q':aG),(q'.fk=false/\m.M= [])\/(q'.fk=true/\∃k i q,m=aH k i/\t.rw k=some q/\i<q.kn)->(q'.fk=false/\m.M= [])\/(q'.fk=true/\∃k i q,m=aH k i/\t'.rw k=some q/\i<q.kn):=by
  intro m q' Z
  rcases Z with Z|⟨Z,k,i,q,v,e,A⟩
  ·exact .inl Z
  ·refine .inr ⟨Z,k,i,?_⟩
   by_cases al:k=n
   ·subst al
    rw[w] at e
    cases e
    exact⟨a9,v,K,by rw[E];exact A⟩
   ·by_cases am:r.fk=true/\k=dL n
    ·obtain⟨g,rfl⟩:=am
     exact⟨_,v,a0 q g e,A⟩
    ·exact⟨q,v,by rw[Y k al (λg H=>am ⟨g,H⟩)];exact e,A⟩
 refine⟨by rw[an];exact u.nodup,λm=>by rw[an,u.ks];exact(X m).symm,λm L=>?_,λm q F=>?_,?_,λm b4 S=>?_,u.roots⟩
 ·have c:m≠n:=λc=>by subst c;rw[K] at L;cases L
  rw[T m c];refine u.none_ m ?_
  by_cases W:t.rw m=none
  ·exact W
  ·exact absurd L ((X m).2 W)
 ·by_cases c:m=n
  ·subst c
   rw[K] at F
   cases F
   subst E;refine⟨⟨p,y,aE,bb,by simp,λc=>by simp at c,λc=>by simp at c,λc=>by simp at c,λ_=>⟨ba,bq,λc=>?_,λc=>?_⟩,?_⟩,a6 m _ Q.up,λi R=>(X _).2 (Q.down i R),?_,Q.kn⟩
   ·rcases D with D|D
    ·exact D.2.2
    ·rw[D.1] at c;cases c
   ·rcases D with D|D
    ·rw[D.1] at c;cases c
    ·exact(b3.idle (.inr D.2)).1
   ·rw[a4,b3.O]
    rcases D with⟨rfl,o,_⟩|⟨rfl,o⟩<;>simp[o]
   ·simp only
    rw[av m r w λi _=>iy m i];exact Q.opn
  ·by_cases e:r.fk=true/\m=dL n
   ·obtain⟨g,rfl⟩:=e
    obtain⟨i,l,v,e,A,N⟩:=u.parent w g;rw[a0 l g e] at F
    cases F
    have B:=u.row _ l e;obtain⟨a8,S,a2,a3,z⟩:=B.node
    have bk:dY t.rw (dL n) l.kn=dY t'.rw (dL n) l.kn+1:=by
     refine rn A (λj b1 bc=>b2 _ λc=>bc ?_) (by rw[<-v];exact bm) (by rw[<-v];exact bf);rw[v] at c;rw[lG] at c;exact(ny (by have:=B.kn;omega) N c).2
    have bn:l.opn-1=(dY t'.rw (dL n) l.kn:Int):=by rw[B.opn,bk];omega
    have bp:l.sa=3->0<l.opn:=z.waits
    have bo:(fz l).sa=4/\l.sa=3/\l.opn-1=0\/(fz l).sa=l.sa/\¬(l.sa=3/\l.opn-1=0):=by
     simp only[fz];split
     ·exact .inl ⟨rfl,by assumption⟩
     ·exact .inr ⟨rfl,by assumption⟩
    have a1:t'.fm (dL n)=t.fm (dL n):=T _ c;refine⟨⟨a8,S,a2,a3,?_,λd=>?_,λd=>?_,λd=>?_,λd=>?_,?_⟩,a6 _ _ B.up,λj b1=>(X _).2 (B.down j b1),bn,B.kn⟩
    ·have:=z.lo;omega
    ·rw[a1];exact z.idle (by omega)
    ·rw[a1]
     obtain⟨f,b6,P,b7⟩:=z.runs (by omega);exact⟨f,b6,⟨P.M,P.fn,P.res,P.kd,P.ok,P.fin_⟩,λo=>b7 (by omega)⟩
    ·have C:l.sa=3:=by omega
     have:l.opn-1≠0:=by omega
     have:=bp C;show 0<l.opn-1;omega
    ·rw[a1];exact z.over (by omega)
    ·rw[a4,z.O]
     show _↔(fz l).sa=5\/(fz l).sa=6/\l.here=false
     rcases bo with⟨d,o,_⟩|⟨d,_⟩
     ·rw[d,o];simp
     ·rw[d]
   ·have W:r.fk=true->m≠dL n:=λg H=>e ⟨g,H⟩
    rw[Y m c W] at F;have B:=u.row m q F;obtain⟨a8,S,a2,a3,z⟩:=B.node;refine⟨⟨a8,S,a2,a3,z.lo,λd=>by rw[T m c];exact z.idle d,λd=>by rw[T m c];exact z.runs d,z.waits,λd=>by rw[T m c];exact z.over d,by rw[a4];exact z.O⟩,a6 m q B.up,λi R=>(X _).2 (B.down i R),?_,B.kn⟩;rw[av m q F λi R ai=>?_]
    ·exact B.opn
    ·have g:r.fk=true:=by
      rcases Q.up with⟨_,c⟩|⟨c,_⟩
      ·rw[<-ai] at c;exact absurd c (jk _ _)
      ·exact c
     exact W g (by rw[<-ai,lG])
 ·rw[ad]
  split
  ·rename_i V
   rw[yS,zy];refine⟨u.hnodup,by simp,λa b8 b az c=>?_⟩;simp only[zc,Yk,yw] at az;obtain⟨⟨b5,br,bt⟩,b9,aw⟩:=yL.1 b8;simp only at aw;have A:b5=n:=by rw[aw,c,az]
   subst A;obtain⟨r',d,o,_⟩:=(u.hist _ _ _).1 b9;rw[w] at d
   cases d
   exact a5 o
  ·exact u.hnodup
 ·have cE:(m,b4,S)∈t.hist↔m≠n/\∃r',t'.rw m=some r'/\r'.sa=6/\r'.here=true/\b4=r'.kn/\S=r'.res:=by
   rw[u.hist]
   by_cases c:m=n
   ·subst c
    constructor
    ·rintro ⟨r',d,o,_⟩
     rw[w] at d;cases d;exact absurd o a5
    ·rintro ⟨c,_⟩;exact absurd rfl c
   ·by_cases e:r.fk=true/\m=dL n
    ·obtain⟨g,rfl⟩:=e
     obtain⟨i,l,v,e,A,N⟩:=u.parent w g;rw[a0 l g e,e];constructor
     ·rintro ⟨_,d,o,C⟩;cases d;exact⟨c,_,rfl,(a7 _).2 o,C⟩
     ·rintro ⟨_,_,d,o,C⟩;cases d;exact⟨_,rfl,(a7 _).1 o,C⟩
    ·rw[Y m c (λg H=>e ⟨g,H⟩)]
     exact⟨λd=>⟨c,d⟩,λd=>d.2⟩
  rw[ad]
  by_cases V:here=true
  ·rw[yf V,yH,cE,yw]
   constructor
   ·rintro (⟨_,d⟩|d)
    ·exact d
    ·simp only[yP] at d
     obtain⟨rfl,rfl,rfl⟩:=d;exact⟨a9,K,by rw[E],by rw[E];exact V,by rw[E],by rw[E]⟩
   ·rintro d
    by_cases c:m=n
    ·subst c
     obtain⟨r',o,_,_,C,ar⟩:=d;rw[K] at o
     cases o
     rw[E] at C ar;exact .inr (by rw[C,ar])
    ·exact .inl ⟨c,d⟩
  ·rw[yb V,cE]
   constructor
   ·rintro ⟨_,d⟩;exact d
   ·intro d
    refine⟨λc=>?_,d⟩;subst c;obtain⟨r',o,_,C,_⟩:=d;rw[K] at o
    cases o
    rw[E] at C;exact V C
end
theorem uJ{α:Type}{P:List α->Prop}(d:P [])(e:∀l c,P l->P (l++ [c]))(l:List α):P l:=by
 have key:∀(n:Nat) (l:List α),l.length=n->P l:=by
  intro n
  induction n with
  |zero=>intro l b;rw[yr b];exact d
  |succ n g=>
   intro l b
   rcases List.eq_nil_or_concat l with rfl|⟨l',c,rfl⟩
   ·simp at b
   ·rw[List.concat_eq_append]
    exact e l' c (g l' (by simpa using b))
 exact key _ l rfl
section
variable {G:dg}{t t':TS}{n m:Nm}{r r':aG}
theorem cA.waits_away(d:cA G t)(v:∀n r,t.rw n=some r->r.sa=3\/r.sa=5\/r.sa=6)(u:∀n r,t.rw n=some r->r.sa≠5):∀n r,t.rw n=some r->r.sa=6:=by
 have key:∀(k:Nat) n r,t.rw n=some r->13<=n.M.length+k->r.sa≠3:=by
  intro k
  induction k with
  |zero=>
   intro n r b H g;obtain⟨p,x,F,K,o⟩:=(d.row n r b).node;have L:=(d.row n r b).opn;have N:=o.waits g;obtain⟨i,l,_⟩:=sF (rows:=t.rw) (n:=n) (kn:=r.kn) (by omega);obtain⟨Q,R,c,k,y,e,q,z,A,B⟩:=d.child b l;have:=(dJ q).2.2;rw[d.M b] at this;omega
  |succ k P=>
   intro n r b H g;obtain⟨p,x,F,K,o⟩:=(d.row n r b).node;have L:=(d.row n r b).opn;have N:=o.waits g;obtain⟨i,l,w⟩:=sF (rows:=t.rw) (n:=n) (kn:=r.kn) (by omega);obtain⟨Q,R,c,S,y,e,q,z,A,B⟩:=d.child b l;have C:=P (aH n i) c e (by simp[aH];omega);have D:=u _ c e;have E:=v _ c e;simp only[cI,e] at w;simp at w;omega
 intro n r b;have C:=key 13 n r b (by omega);have D:=u n r b;have E:=v n r b;omega
theorem cA.row_up(u:cA G t):∀(k:List UInt8) (j:Int) (l:List UInt8),t.rw ⟨j,l++k⟩≠none->t.rw ⟨j,l⟩≠none:=by
 refine uJ ?_ ?_
 ·intro j l b;simpa using b
 ·intro k c v j l b
  refine v j l ?_;rw[<-yY] at b
  cases hr:t.rw ⟨j,l++k++ [c]⟩ with
  |none=>exact absurd hr b
  |some r=>
   rcases(u.row _ r hr).up with⟨_,e⟩|⟨_,m,i,q,g,o,w⟩
   ·simp at e
   ·have:m=⟨j,l++k⟩:=by
     have d:=yl dL g;rw[lG] at d;rw[<-d];simp[dL]
    subst this;rw[o];simp
theorem cA.done_iff(g:cA G t)(F:∀n r,t.rw n=some r->r.sa=6){j:Int}{p:List ah}{x:aj}(X:G j=some (p,x))(a4:t.rw ⟨j,[]⟩≠none):
 ∀(l:List UInt8) (u:aj),bM p x l=some u->((∃r,t.rw ⟨j,l⟩=some r/\r.here=true)↔∀q k,l=q++k->¬t.outs ⟨j,q⟩):=by
 have B:∀l r,t.rw ⟨j,l⟩=some r->(t.outs ⟨j,l⟩↔r.here=false):=by
  intro l r d;obtain⟨Q,R,o,A,y⟩:=(g.row _ r d).node;rw[y.O];have:=F _ r d;simp[this]
 refine uJ ?_ ?_
 ·intro u P
  cases d:t.rw ⟨j,[]⟩ with
  |none=>exact absurd d a4
  |some r=>
   constructor
   ·rintro ⟨r',E,w⟩ q k e
    cases E
    have a2:q= []:=by
     rcases q with _|⟨a,b⟩
     ·rfl
     ·simp at e
    subst a2;rw[B _ _ d,w];simp
   ·intro z
    have:=z [] [] rfl;rw[B _ _ d] at this;exact⟨r,rfl,by simpa using this⟩
 ·intro l c C u P
  obtain⟨v,i,L,T,rfl⟩:=pY P;have C:=C v L;constructor
  ·rintro ⟨r,d,w⟩ q k e
   have a3:t.rw ⟨j,l⟩≠none:=g.row_up [UInt8.ofNat (i+1)] j l (by rw[d];simp)
   cases hr2:t.rw ⟨j,l⟩ with
   |none=>exact absurd hr2 a3
   |some D=>
    have Y:D.here=true:=by
     cases hb:D.here with
     |true=>rfl
     |false=>
      exfalso;obtain⟨Q,R,o,A,y⟩:=(g.row _ D hr2).node;have a7:=(y.over (F _ _ hr2)).2.2.2 hb
      rcases(g.row _ r d).up with⟨_,E⟩|⟨_,m,a8,q',S,H,a6⟩
      ·simp at E
      ·have:m=⟨j,l⟩:=by
        have K:=yl dL S;rw[lG] at K;rw[<-K];simp[dL]
       subst this;rw[hr2] at H
       cases H
       omega
    have a1:=C.1 ⟨D,hr2,Y⟩
    rcases List.eq_nil_or_concat k with rfl|⟨a5,c',rfl⟩
    ·rw[zA] at e
     subst e;rw[B _ _ d,w];simp
    ·rw[List.concat_eq_append,<-yY] at e
     exact a1 q a5 (List.append_inj' e rfl).1
  ·intro z
   have V:∃r,t.rw ⟨j,l⟩=some r/\r.here=true:=C.2 λq k e=>z q (k++ [UInt8.ofNat (i+1)]) (by rw[e,yY])
   obtain⟨r,d,w⟩:=V;obtain⟨Q,R,o,A,y⟩:=(g.row _ r d).node;simp only at o;rw[X] at o
   cases o
   rw[L] at A
   cases A
   have a0:=(y.over (F _ _ d)).2.2.1 w;have Z:i<r.kn:=by rw[a0];exact(gS T).1
   have W:=(g.row _ r d).down i Z
   cases hc:t.rw (aH ⟨j,l⟩ i) with
   |none=>exact absurd hc W
   |some c=>
    have N:t.rw ⟨j,l++ [UInt8.ofNat (i+1)]⟩=some c:=hc;refine⟨c,N,?_⟩;have:=z _ [] (by rw[zA]);rw[B _ _ N] at this
    simpa using this
theorem cA.hist_node(b:cA G t){j:Int}{p:List ah}{x:aj}(o:G j=some (p,x)){l:List UInt8}{k:Nat}{y:aL}(g:((⟨j,l⟩ :Nm),k,y)∈t.hist):
 ∃u,bM p x l=some u/\u.M=l/\k=(aR p u).length/\y=bw p u:=by
 obtain⟨r,d,e,q,rfl,rfl⟩:=(b.hist _ _ _).1 g;obtain⟨z,A,c,v,w⟩:=(b.row _ r d).node;simp only at c;rw[o] at c
 cases c
 have:=w.over e;exact⟨r.tk,v,b.M d,this.2.2.1 q,this.2.1⟩
end
structure Th where
 act:Option (Nat×Nat)
 kn:Nat
 cur:Nm
 run:Bool
def gY:Nm:=⟨0,[]⟩
structure PS where
 T:TS
 ths:List Th
 C:List Int
 ds:List aT
 queue:List Nm
 nms:List Nm
 roots:Nm->Option Int
 known:Nm->Option aL
 away:Nm->Bool
 progs:Int->Option (List ah)
def PS.prog(s:PS)(j:Int):List ah:=(s.progs j).getD []
def F5:aT:=⟨0,[],[],none,[],0,0,0⟩
def mB:Th:=⟨none,0,gY,false⟩
def PS.dq(s:PS)(k:Nat):aT:=s.ds.getD k F5
def PS.th(s:PS)(k:Nat):Th:=s.ths.getD k mB
def PS.setTh(s:PS)(k:Nat)(th:Th):PS:={s with ths:=s.ths.set k th}
def PS.inL(s:PS)(n:Nm):Prop:=∃(k:Nat) (x:aT) (v:Int),s.ds[k]?=some x/\v∈x.L/\s.nms[v.toNat]?=some n
structure Fe(s:PS)(k:Nat)(th:Th):Prop where
 run:th.run=true->∃r,s.T.rw th.cur=some r/\r.sa=2
 free:th.act=none->own (s.dq k).acts (s.dq k).on=none
 act:∀j i,th.act=some (j,i)->∃(x:aT) (a:aC),s.ds[j]?=some x/\x.acts[i]?=some a/\a.td=0/\
  (th.kn=1/\j=k/\a.kn=0\/th.kn=2/\j=k/\a.kn=1/\th.run=false\/
   th.kn=3/\j≠k/\a.kn=2/\th.run=false/\(s.dq k).L= []/\own (s.dq k).acts (s.dq k).on=none)
structure aK(G:dg)(s:PS)(ex:Nm->Prop):Prop where
 t:cA G s.T
 progs:∀j p x,G j=some (p,x)->s.progs j=some p
 many:fI s.C s.ds
 kinds:∀x∈s.ds,∀a∈x.acts,a.kn<=2
 nlen:s.ds.length=s.ths.length
 vals:∀x∈s.ds,∀v∈x.L,0<=v/\v<s.nms.length
 nnodup:s.nms.Nodup
 th:∀(k:Nat) (th:Th),s.ths[k]?=some th->Fe s k th
 one:∀(k l:Nat) (th tl:Th),k≠l->s.ths[k]?=some th->s.ths[l]?=some tl->th.run=true->tl.run=true->th.cur≠tl.cur
 acts:∀(k l:Nat) (th tl:Th) (y:Nat×Nat),k≠l->s.ths[k]?=some th->s.ths[l]?=some tl->th.act=some y->tl.act≠some y
 ready:∀n r,s.T.rw n=some r->r.sa=1->¬ex n->n∈s.queue\/(s.roots n=none/\s.inL n)
 wakes:∀n r,s.T.rw n=some r->r.sa=4->¬ex n->n∈s.queue\/s.inL n
 runs:∀n r,s.T.rw n=some r->r.sa=2->∃(k:Nat) (th:Th),s.ths[k]?=some th/\th.run=true/\th.cur=n
 outN:∀m,s.T.rw m=none->(s.T.outs m↔s.known m≠none\/s.away m=true)
 known:∀m y p x u,s.known m=some y->G m.job=some (p,x)->bM p x m.M=some u->y=bw p u
 roots:∀n,s.roots n≠none->n.M= []
noncomputable def dX(s:PS)(k:Nat)(n:Nm):PS:=
 match s.T.rw n with
 |none=>s
 |some r=>if r.sa=1\/r.sa=4 then {s with T:=gV (s.prog n.job) s.T n r,ths:=s.ths.set k {s.th k with cur:=n,run:=true}} else s
noncomputable def eT(nms:List Nm)(n:Nm):Nat×List Nm:=
 if h:∃v:Nat,nms[v]?=some n then(Classical.choose h,nms) else(nms.length,nms++ [n])
noncomputable def eU(x:aT)(v:Int):aT:={x with acts:=x.acts++ [cQ 0 v],on:=some x.acts.length,L:=x.L++ [v],P:=x.P+1}
noncomputable def eJ(s:PS)(k:Nat)(n:Nm):PS:=
 {s with nms:=(eT s.nms n).2,ds:=s.ds.set k (eU (s.dq k) ((eT s.nms n).1:Int)),ths:=s.ths.set k {s.th k with act:=some (k,(s.dq k).acts.length),kn:=1}}
def nI(x:aT):aT:={x with acts:=x.acts++ [cQ 1 0],on:=some x.acts.length}
def lE(x:aT):aT:={x with acts:=x.acts++ [cQ 2 0]}
noncomputable def lh(s:PS)(k:Nat):PS:=
 {s with ds:=s.ds.set k (nI (s.dq k)),ths:=s.ths.set k {s.th k with act:=some (k,(s.dq k).acts.length),kn:=2}}
noncomputable def jr(s:PS)(k j:Nat):PS:=
 {s with ds:=s.ds.set j (lE (s.dq j)),ths:=s.ths.set k {s.th k with act:=some (j,(s.dq j).acts.length),kn:=3}}
structure pi(s:PS)(j i:Nat)(x:aT)(a:aC)(s1:PS):Prop where
 hx:s.ds[j]?=some x
 ha:x.acts[i]?=some a
 ex:∃L' ws',s1= {s with C:=(pstep x.d s.C a).C,ds:=s.ds.set j ⟨x.d,ws',x.acts.set i (pstep x.d s.C a).a,x.on,L',x.own+(((pstep x.d s.C a).C.length:Int)-s.C.length),x.P,x.c0⟩}/\
  fI s1.C s1.ds/\mX a (pstep x.d s.C a) x.L L'/\(pstep x.d s.C a).a.kn=a.kn
noncomputable def jg(s:PS)(k:Nat)(draw:Nat)(what:Nat)(val:Int):PS:=
 let s2:=s.setTh k {s.th k with act:=none,kn:=0}
 if what=1 then s2
 else if what=2 then dX s2 k (s.nms.getD val.toNat gY)
 else if (s.th k).kn=2/\s.queue≠[] then dX {s2 with queue:=s.queue.tail} k (s.queue.headD gY)
 else if (s.th k).kn=2/\1<s.ths.length then jr s2 k ((k+(1+draw % (s.ths.length-1))) % s.ths.length)
 else s2
def kP(rows:Nm->Option aG)(m:Nm):aL:=
 match rows m with
 |some c=>c.res
 |none=>⟨0,0⟩
def bU(rows:Nm->Option aG)(n:Nm):List Nat->Fr->Fr
 | [],f=>f
 |i :: l,f=>bU rows n l (f.give i (kP rows (aH n i)))
noncomputable def i5(s:PS)(k:Nat)(n:Nm)(r:aG)(f:Fr)(t:aj):PS:=
 match s.known (aH n r.kn) with
 |some y=>{s with T:=bQ s.T n r f ⟨t,6,0,y,true,0,false⟩}
 |none=>
  if s.away (aH n r.kn)=true then {s with T:=bQ s.T n r f ⟨t,5,0,⟨0,0⟩,true,0,false⟩}
  else eJ {s with T:=bQ s.T n r f ⟨t,1,0,⟨0,0⟩,true,0,false⟩} k (aH n r.kn)
noncomputable def fE(t:TS)(n:Nm)(r:aG):Bool:=
 match r.fk,t.rw (dL n) with
 |true,some q=>decide (q.sa=3/\q.opn-1=0)
 |_,_=>false
noncomputable def fi(s:PS)(k:Nat):PS:=
 match s.T.rw (s.th k).cur,s.T.fm (s.th k).cur with
 |some r,some f=>
  let n:=(s.th k).cur
  match (f.run1 (s.prog n.job)).2 with
  | .more=>{s with T:=iQ s.T n r 2 (f.run1 (s.prog n.job)).1}
  | .fork t=>i5 s k n r (f.run1 (s.prog n.job)).1 t
  | .join=>
    if r.opn≠0 then {s with T:=iQ s.T n r 3 (f.run1 (s.prog n.job)).1,ths:=s.ths.set k {s.th k with cur:=gY,run:=false}}
    else {s with T:=iQ s.T n r 2 (bU s.T.rw n (f.run1 (s.prog n.job)).1.waitsOf (f.run1 (s.prog n.job)).1)}
  | .done x=>
    let s2:PS:={s with T:=bI s.T n r x true,ths:=s.ths.set k {s.th k with cur:=gY,run:=false}}
    if fE s.T n r=true then eJ s2 k (dL n) else s2
 |_,_=>s
def dt(s:PS)(k:Nat)(draw:Nat)(s':PS):Prop:=
 match (s.th k).act with
 |some (j,i)=>∃x a s1,pi s j i x a s1/\(if (pstep x.d s.C a).what=0 then s'=s1 else s'=jg s1 k draw (pstep x.d s.C a).what (pstep x.d s.C a).val)
 |none=>if (s.th k).run=true then s'=fi s k else s'=lh s k
section
variable {G:dg}{s s':PS}{ex:Nm->Prop}{k:Nat}
theorem kV{α:Type}{l:List α}{i:Nat}{x d:α}(b:l[i]?=some x):l.getD i d=x:=by simp[yc,b]
theorem fK{α:Type}{l:List α}{i:Nat}{d:α}(b:i<l.length):l[i]?=some (l.getD i d):=by simp[yc,b]
theorem dH{α:Type}{l:List α}{i j:Nat}{x y:α}(b:(l.set i x)[j]?=some y):(j=i/\y=x)\/(j≠i/\l[j]?=some y):=by
 rw[zg] at b;split at b
 ·rename_i c
  split at b
  ·cases b;exact .inl ⟨c.symm,rfl⟩
  ·cases b
 ·rename_i c
  exact .inr ⟨λd=>c d.symm,b⟩
theorem bH{α:Type}{l:List α}{i:Nat}{x:α}(b:i<l.length):(l.set i x)[i]?=some x:=by simp[b]
theorem dG{α:Type}{l:List α}{i j:Nat}{x:α}(c:j≠i):(l.set i x)[j]?=l[j]?:=by
 rw[zg,yb (λb=>c b.symm)]
theorem mS{α:Type}{l:List α}{i:Nat}{x y:α}(c:y∈l.set i x):y=x\/y∈l:=by
 obtain⟨j,d⟩:=yF c
 rcases dH d with⟨_,b⟩|⟨_,b⟩
 ·exact .inl b
 ·exact .inr (yh b)
theorem wZ(nms:List Nm)(n:Nm):(eT nms n).2[(eT nms n).1]?=some n/\(∀(v:Nat) (m:Nm),nms[v]?=some m->(eT nms n).2[v]?=some m)/\nms.length<=(eT nms n).2.length/\(eT nms n).2.length<=nms.length+1/\(nms.Nodup->(eT nms n).2.Nodup):=by
 unfold eT;split
 ·rename_i d
  exact⟨Classical.choose_spec d,λv m c=>c,lR,yX _,λd=>d⟩
 ·rename_i d
  refine⟨by simp,λv m c=>?_,by simp,by simp,λl=>?_⟩
  ·rw[yi (gS c).1]
   exact c
  ·rw[zy]
   refine⟨l,by simp,λa e b g c=>?_⟩;rw[yw.1 g] at c;subst c;obtain⟨v,hv⟩:=yF e;exact d ⟨v,hv⟩
end
section
variable {G:dg}{s s' s1:PS}{ex:Nm->Prop}{k j i:Nat}{x:aT}{a:aC}
theorem aK.exMono{ex':Nm->Prop}(b:aK G s ex)(l:∀n,ex n->ex' n):aK G s ex':=
 ⟨b.t,b.progs,b.many,b.kinds,b.nlen,b.vals,b.nnodup,b.th,b.one,b.acts,λn r d e g=>b.ready n r d e (λc=>g (l n c)),λn r d e g=>b.wakes n r d e (λc=>g (l n c)),b.runs,b.outN,b.known,b.roots⟩
theorem tC{r:ke}{L b:List Int}(c:mX a r L b):∀v∈b,v∈L:=by
 intro v hv
 rcases c with⟨_,_,_,rfl⟩|⟨_,⟨_,_,_,rfl⟩|⟨_,_,rfl⟩|⟨_,_,_,rfl,rfl⟩|⟨_,_,rfl⟩|⟨_,_,_,rfl⟩⟩
 ·exact hv
 ·exact hv
 ·simp[hv]
 ·exact hv
 ·simp[hv]
 ·exact hv
theorem Cp{r:ke}{L d:List Int}(e:mX a r L d):∀v∈L,v∈d\/(r.what=2/\v=r.val):=by
 intro v hv
 rcases e with⟨_,_,_,rfl⟩|⟨_,⟨_,_,_,rfl⟩|⟨_,c,rfl⟩|⟨_,_,_,rfl,rfl⟩|⟨_,c,rfl⟩|⟨_,_,_,rfl⟩⟩
 ·exact .inl hv
 ·exact .inl hv
 ·rcases yH.1 hv with b|b
  ·exact .inl b
  ·exact .inr ⟨c,yw.1 b⟩
 ·exact .inl hv
 ·rcases yG.1 hv with b|b
  ·exact .inr ⟨c,b⟩
  ·exact .inl b
 ·exact .inl hv
theorem Af{r:ke}{L c:List Int}(d:mX a r L c)(e:r.what≠0):r.a.td=r.what:=by
 rcases d with⟨b,_⟩|⟨b,_⟩
 ·exact absurd b e
 ·exact b
theorem sk{r:ke}{L b:List Int}(c:mX a r L b)(l:r.what=0):r.a.td=0/\b=L:=by
 rcases c with⟨_,_,d,e⟩|⟨g,c⟩
 ·exact⟨d,e⟩
 ·omega
theorem PS.dq_eq(b:s.ds[k]?=some x):s.dq k=x:=kV b
theorem PS.th_eq{th:Th}(b:s.ths[k]?=some th):s.th k=th:=kV b
theorem qA{α:Type}{l:List α}{i:Nat}{x:α}(c:l[i]?=some x):l.set i x=l:=by
 apply zt;intro j
 by_cases b:j=i
 ·subst b;rw[bH (gS c).1,c]
 ·rw[dG b]
theorem aK.dstepG{ex':Nm->Prop}(c:aK G s ex){th th':Th}(S:s.ths[k]?=some th)(bm:th.act=some (j,i))(bv:pi s j i x a s1)(av:th'.run=th.run)(ad:th'.cur=th.cur)(ba:th'.act=none\/th'.act=th.act)
 (b9:Fe (s1.setTh k th') k th') (bc:∀n,ex n->ex' n) (bx:(pstep x.d s.C a).what=2->∀n,s.nms[(pstep x.d s.C a).val.toNat]?=some n->ex' n):aK G (s1.setTh k th') ex':=by
 obtain⟨H,a6,b1,ws',g,c2,bb,bz⟩:=bv;obtain⟨cf,c9,b6,b7,b8,cb⟩:=(c.th k th S).act j i bm;rw[H] at b6
 cases b6
 rw[a6] at b7
 cases b7
 have aw:=tC bb;have c7:=Cp bb;have cd:=(c.many.each j x H).kinds i a a6 b8;have ce:=(c.many.each j x H).onk;generalize pstep x.d s.C a=r at*;have al:j<s.ds.length:=(gS H).1;have c1:k<s.ths.length:=(gS S).1;obtain⟨y,a3⟩:=eX (⟨x.d,ws',x.acts.set i r.a,x.on,b1,x.own+((r.C.length:Int)-s.C.length),x.P,x.c0⟩ :aT);rw[<-a3] at g;obtain⟨o,E⟩:=eX (s1.setTh k th');rw[<-E] at b9 ⊢;have K:o.ds=s.ds.set j y:=by rw[E,g];rfl
 have a2:o.ths=s.ths.set k th':=by rw[E,g];rfl
 have Z:o.T=s.T:=by rw[E,g];rfl
 have a7:o.nms=s.nms:=by rw[E,g];rfl
 have bk:o.queue=s.queue:=by rw[E,g];rfl
 have c6:o.roots=s.roots:=by rw[E,g];rfl
 have c3:fI o.C o.ds:=by rw[E];exact c2
 have az:y.L=b1:=by rw[a3]
 have c5:own x.acts x.on=none->own y.acts y.on=none:=by
  intro A;rw[a3];have ar:x.on≠some i:=λar=>by simp only[ar,own,a6,b8,yR] at A;cases A
  simp only;rw[eP ar];exact A
 have ai:∀l,((s.dq l).L= []->(o.dq l).L= [])/\(own (s.dq l).acts (s.dq l).on=none->own (o.dq l).acts (o.dq l).on=none):=by
  intro l
  by_cases R:l=j
  ·subst R
   rw[PS.dq_eq (show o.ds[l]?=some y by rw[K];exact bH al),PS.dq_eq H];refine⟨λA=>?_,c5⟩;rw[az];rw[A] at aw;exact List.eq_nil_iff_forall_not_mem.2 λv hv=>by simpa using aw v hv
  ·have:o.dq l=s.dq l:=by unfold PS.dq;rw[K,yc,yc,dG R]
   rw[this];exact⟨λc=>c,λc=>c⟩
 have bf:∀n,¬ex' n->s.inL n->o.inL n:=by
  rintro n c4 ⟨l,z,v,e,D,B⟩
  by_cases R:l=j
  ·subst R
   rw[H] at e
   cases e
   rcases c7 v D with q|⟨q,rfl⟩
   ·exact⟨l,y,v,by rw[K];exact bH al,by rw[az];exact q,by rw[a7];exact B⟩
   ·exact absurd (bx q n B) c4
  ·exact⟨l,z,v,by rw[K,dG R];exact e,D,by rw[a7];exact B⟩
 refine⟨by rw[Z];exact c.t,by rw[E,g];exact c.progs,c3,λz Q b a0=>?_,by rw[K,yI,a2,yI];exact c.nlen,λz Q v hv=>?_,by rw[a7];exact c.nnodup,λl w F=>?_,λl l' w a4 N F u e D=>?_,λl l' w a4 b0 N F u e=>?_,
  λn r e D B=>?_,λn r e D B=>?_,λn r e D=>?_,by rw[E,g];exact c.outN,by rw[E,g];exact c.known,by rw[E,g];exact c.roots⟩
 ·rw[K] at Q
  rcases mS Q with rfl|Q
  ·rw[a3] at a0
   rcases mS a0 with rfl|a0
   ·rw[bz];exact c.kinds x (yh H) a (yh a6)
   ·exact c.kinds x (yh H) b a0
  ·exact c.kinds z Q b a0
 ·rw[K] at Q
  rw[a7]
  rcases mS Q with rfl|Q
  ·rw[az] at hv;exact c.vals x (yh H) v (aw v hv)
  ·exact c.vals z Q v hv
 ·rw[a2] at F
  rcases dH F with⟨rfl,rfl⟩|⟨am,F⟩
  ·exact b9
  have ab:=c.th l w F;refine⟨by rw[Z];exact ab.run,λa5=>(ai l).2 (ab.free a5),λW aE a5=>?_⟩;obtain⟨c8,X,a9,b3,b4,Y⟩:=ab.act W aE a5
  have b5:w.kn=1/\W=l/\X.kn=0\/w.kn=2/\W=l/\X.kn=1/\w.run=false\/w.kn=3/\W≠l/\X.kn=2/\w.run=false/\(o.dq l).L= []/\own (o.dq l).acts (o.dq l).on=none:=by
   rcases Y with Y|Y|⟨bn,bo,bp,bq,br,bt⟩
   ·exact .inl Y
   ·exact .inr (.inl Y)
   ·exact .inr (.inr ⟨bn,bo,bp,bq,(ai l).1 br,(ai l).2 bt⟩)
  by_cases b2:W=j
  ·subst b2
   rw[H] at a9
   cases a9
   have a8:aE≠i:=λa8=>by
    subst a8;exact c.acts k l th w (W,aE) (λg=>am g.symm) S F bm a5
   exact⟨y,X,by rw[K];exact bH al,by rw[a3];simp only;rw[cJ a8];exact b3,b4,b5⟩
  ·exact⟨c8,X,by rw[K,dG b2];exact a9,b3,b4,b5⟩
 ·rw[a2] at F u
  rcases dH F with⟨rfl,rfl⟩|⟨am,a1⟩
  ·rcases dH u with⟨g,_⟩|⟨an,u⟩
   ·exact absurd g.symm N
   ·rw[ad];exact c.one l l' th a4 N S u (by rw[<-av];exact e) D
  ·rcases dH u with⟨rfl,rfl⟩|⟨an,u⟩
   ·rw[ad];exact c.one l l' w th N a1 S e (by rw[<-av];exact D)
   ·exact c.one l l' w a4 N a1 u e D
 ·rw[a2] at F u
  rcases dH F with⟨rfl,rfl⟩|⟨am,a1⟩
  ·rcases dH u with⟨g,_⟩|⟨an,u⟩
   ·exact absurd g.symm N
   ·rcases ba with A|A
    ·rw[A] at e;cases e
    ·exact c.acts l l' th a4 b0 N S u (by rw[<-A];exact e)
  ·rcases dH u with⟨rfl,rfl⟩|⟨an,u⟩
   ·rcases ba with A|A
    ·rw[A];simp
    ·rw[A];exact c.acts l l' w th b0 N a1 S e
   ·exact c.acts l l' w a4 b0 N a1 u e
 ·rw[Z] at e
  rw[bk,c6]
  rcases c.ready n r e D (λq=>B (bc n q)) with q|⟨q,V⟩
  ·exact .inl q
  ·exact .inr ⟨q,bf n B V⟩
 ·rw[Z] at e
  rw[bk]
  rcases c.wakes n r e D (λq=>B (bc n q)) with q|V
  ·exact .inl q
  ·exact .inr (bf n B V)
 ·rw[Z] at e
  obtain⟨l,w,B,q,V⟩:=c.runs n r e D;rw[a2]
  by_cases R:l=k
  ·subst R
   rw[S] at B
   cases B
   exact⟨l,th',bH c1,by rw[av];exact q,by rw[ad];exact V⟩
  ·exact⟨l,w,by rw[dG R];exact B,q,V⟩
theorem aK.dstep(o:aK G s ex){th:Th}(g:s.ths[k]?=some th)(l:th.act=some (j,i))(q:pi s j i x a s1)(T:(pstep x.d s.C a).what=0):aK G s1 ex:=by
 have z:s1.setTh k th=s1:=by
  obtain⟨_,_,_,_,b,_⟩:=q;rw[b];simp only[PS.setTh];rw[qA g]
 have N:=q;obtain⟨A,y,V,ws',b,a0,L,Q⟩:=N;obtain⟨a3,W,v,w,X,c⟩:=(o.th k th g).act j i l;rw[A] at v
 cases v
 rw[y] at w
 cases w
 obtain⟨S,Z⟩:=sk L T;rw[<-z];refine o.dstepG g l q rfl rfl (.inr rfl) ?_ (λn R=>R) (λY=>by omega);rw[z];have K:=o.th k th g;have P:j<s.ds.length:=(gS A).1;generalize pstep x.d s.C a=r at*;refine⟨by rw[b];exact K.run,λe=>(by rw[l] at e;cases e),λa2 a1 e=>?_⟩;rw[l] at e
 cases e
 refine⟨_,r.a,by rw[b];exact bH P,dx y,S,?_⟩;rw[Q]
 rcases c with c|c|⟨B,u,D,E,F,H⟩
 ·exact .inl c
 ·exact .inr (.inl c)
 ·have:s1.dq k=s.dq k:=by unfold PS.dq;rw[b,yc,yc,dG (λb=>u b.symm)]
  rw[this];exact .inr (.inr ⟨B,u,D,E,F,H⟩)
theorem aK.dend(c:aK G s ex){th:Th}(g:s.ths[k]?=some th)(B:th.act=some (j,i))(y:pi s j i x a s1)(o:(pstep x.d s.C a).what≠0):
 aK G (s1.setTh k {th with act:=none,kn:=0}) (λn=>ex n\/((pstep x.d s.C a).what=2/\s.nms[(pstep x.d s.C a).val.toNat]?=some n))/\
  own ((s1.setTh k {th with act:=none,kn:=0}).dq k).acts ((s1.setTh k {th with act:=none,kn:=0}).dq k).on=none:=by
 have S:=y;obtain⟨q,e,T,ws',b,a1,R,a0⟩:=S;obtain⟨a2,V,u,v,H,K⟩:=(c.th k th g).act j i B;rw[q] at u
 cases u
 rw[e] at v
 cases v
 have w:=(c.many.each j x q).kinds i a e H;have D:=Af R o;have Q:=c.th k th g;have A:j<s.ds.length:=(gS q).1
 have z:own ((s1.setTh k {th with act:=none,kn:=0}).dq k).acts ((s1.setTh k {th with act:=none,kn:=0}).dq k).on=none:=by
  show own (s1.dq k).acts (s1.dq k).on=none
  rcases K with⟨_,rfl,L⟩|⟨_,rfl,L,_⟩|⟨W,E,X,Y,Z,F⟩
  ·rw[PS.dq_eq (show s1.ds[j]?=_ by rw[b];exact bH A)]
   simp only;rw[w (by omega),kH e,yb (by rw[D];exact o)]
  ·rw[PS.dq_eq (show s1.ds[j]?=_ by rw[b];exact bH A)]
   simp only;rw[w (by omega),kH e,yb (by rw[D];exact o)]
  ·have:s1.dq k=s.dq k:=by unfold PS.dq;rw[b,yc,yc,dG (λb=>E b.symm)]
   rw[this];exact F
 refine⟨c.dstepG g B y rfl rfl (.inl rfl) ⟨?_,λ_=>z,λj i N=>by cases N⟩ (λn l=>.inl l) (λP n l=>.inr ⟨P,l⟩),z⟩;rw[b];exact Q.run
end
section
variable {G:dg}{s s' s1:PS}{ex ex':Nm->Prop}{k j i:Nat}{th th':Th}{n m:Nm}{r:aG}
theorem aK.turnT{T':TS}(c:aK G s ex)(a3:cA G T')(A:s.ths[k]?=some th)(a4:th.act=none)(P:th'.act=none)
 (a2:∀m,T'.rw m=none->s.T.rw m=none/\(T'.outs m↔s.T.outs m))
 (X:∀m r',T'.rw m=some r'->r'.sa=1\/r'.sa=4->¬ex' m->∃r,s.T.rw m=some r/\r.sa=r'.sa/\¬ex m)
 (Y:∀m r',T'.rw m=some r'->r'.sa=2->(th'.run=true/\th'.cur=m)\/((th.run=true->th.cur≠m)/\∃r,s.T.rw m=some r/\r.sa=2))
 (Z:∀m r,s.T.rw m=some r->r.sa=2->(th.run=true->th.cur≠m)->∃r',T'.rw m=some r'/\r'.sa=2)
 (a0:th'.run=true->∃r',T'.rw th'.cur=some r'/\r'.sa=2)
 (a1:th'.run=true->(th.run=true/\th'.cur=th.cur)\/∀r,s.T.rw th'.cur=some r->r.sa≠2):
 aK G {s with T:=T',ths:=s.ths.set k th'} ex':=by
 have a5:k<s.ths.length:=(gS A).1
 refine⟨a3,c.progs,c.many,c.kinds,by simp only[yI];exact c.nlen,c.vals,c.nnodup,λl e u=>?_,λl l' e E D u C b d=>?_,λl l' e E a7 D u C b=>?_,
  λm r' b d q=>?_,λm r' b d q=>?_,λm r' b d=>?_,λm a6=>?_,c.known,c.roots⟩
 ·rcases dH u with⟨rfl,rfl⟩|⟨y,w⟩
  ·exact⟨a0,λ_=>(c.th l th A).free a4,λj i g=>by rw[P] at g;cases g⟩
  ·have N:=c.th l e w
   refine⟨λg=>?_,N.free,N.act⟩;obtain⟨r,b,d⟩:=N.run g;exact Z _ r b d λz=>c.one k l th e (λg=>y g.symm) A w z g
 ·have key:∀(l:Nat) (e:Th),l≠k->s.ths[l]?=some e->e.run=true->th'.run=true->th'.cur≠e.cur:=by
   intro l e y u b d g
   rcases a1 d with⟨q,o⟩|q
   ·exact c.one k l th e (λg=>y g.symm) A u q b (by rw[<-o];exact g)
   ·obtain⟨r,o,v⟩:=(c.th l e u).run b
    rw[<-g] at o;exact q r o v
  rcases dH u with⟨R,z⟩|⟨y,w⟩
  ·rcases dH C with⟨F,_⟩|⟨Q,B⟩
   ·exact absurd (R.trans F.symm) D
   ·rw[z] at b ⊢
    exact key l' E Q B d b
  ·rcases dH C with⟨F,H⟩|⟨Q,B⟩
   ·rw[H] at d ⊢
    exact λg=>key l e y w b d g.symm
   ·exact c.one l l' e E D w B b d
 ·rcases dH u with⟨R,z⟩|⟨y,w⟩
  ·rw[z,P] at b;cases b
  ·rcases dH C with⟨F,H⟩|⟨Q,B⟩
   ·rw[H,P];simp
   ·exact c.acts l l' e E a7 D w B b
 ·obtain⟨r,o,v,L⟩:=X m r' b (.inl d) q
  exact c.ready m r o (by rw[v];exact d) L
 ·obtain⟨r,o,v,L⟩:=X m r' b (.inr d) q
  exact c.wakes m r o (by rw[v];exact d) L
 ·rcases Y m r' b d with⟨q,o⟩|⟨q,r,o,v⟩
  ·exact⟨k,th',bH a5,q,o⟩
  ·obtain⟨l,e,K,V,W⟩:=c.runs m r o v
   by_cases S:l=k
   ·subst S
    rw[A] at K
    cases K
    exact absurd W (q V)
   ·exact⟨l,e,by simp only[dG S];exact K,V,W⟩
 ·obtain⟨b,d⟩:=a2 m a6
  show T'.outs m↔_;rw[d];exact c.outN m b
theorem aK.prog(c:aK G s ex){b:Int}{p:List ah}{x:aj}(d:G b=some (p,x)):s.prog b=p:=by
 unfold PS.prog;rw[c.progs _ _ _ d];rfl
theorem kg(p:List ah)(t:TS)(n:Nm)(r:aG)(m:Nm):(gV p t n r).rw m=if m=n then some {r with sa:=2} else t.rw m:=rfl
theorem aK.begin_(c:aK G s ex)(z:s.ths[k]?=some th)(v:th.act=none)(B:th.run=false)(n:Nm):aK G (dX s k n) (λm=>ex m/\m≠n):=by
 have w:∀(q:∀r,s.T.rw n=some r->r.sa≠1/\r.sa≠4),aK G s (λm=>ex m/\m≠n):=by
  intro q;refine⟨c.t,c.progs,c.many,c.kinds,c.nlen,c.vals,c.nnodup,c.th,c.one,c.acts,λm r d e g=>?_,λm r d e g=>?_,c.runs,c.outN,c.known,c.roots⟩
  ·by_cases b:m=n
   ·subst b;exact absurd e (q r d).1
   ·exact c.ready m r d e (λl=>g ⟨l,b⟩)
  ·by_cases b:m=n
   ·subst b;exact absurd e (q r d).2
   ·exact c.wakes m r d e (λl=>g ⟨l,b⟩)
 unfold dX
 cases hn:s.T.rw n with
 |none=>exact w λr b=>by rw[hn] at b;cases b
 |some r=>
  simp only
  by_cases u:r.sa=1\/r.sa=4
  ·rw[yf u]
   obtain⟨p,x,y,_,_⟩:=(c.t.row n r hn).node;have A:=c.t.begin_ hn u y;rw[PS.th_eq z,c.prog y];refine c.turnT A z v v (λm o=>?_) (λm r' d e g=>?_) (λm r' d e=>?_) (λm r' d e g=>?_) (λ_=>?_) (λ_=>.inr λr' b=>?_)
   ·rw[kg] at o
    split at o
    ·cases o
    ·exact⟨o,Iff.rfl⟩
   ·rw[kg] at d
    split at d
    ·cases d;simp only at e;omega
    ·rename_i b;exact⟨r',d,rfl,λl=>g ⟨l,b⟩⟩
   ·rw[kg] at d
    split at d
    ·rename_i b;exact .inl ⟨rfl,b.symm⟩
    ·exact .inr ⟨λb=>(by rw[B] at b;cases b),r',d,e⟩
   ·rw[kg]
    split
    ·exact⟨_,rfl,rfl⟩
    ·exact⟨r',d,e⟩
   ·exact⟨_,by rw[kg,yf rfl],rfl⟩
   ·rw[hn] at b
    cases b
    omega
  ·rw[yb u]
   exact w λr' b=>by rw[hn] at b;cases b;omega
theorem aK.newAct(o:aK G s ex)(a5:s.ths[k]?=some th)(bq:th.act=none){x y:aT}(a0:s.ds[j]?=some x){kd kk:Nat}{v:Int}(az:y.acts=x.acts++ [cQ kd v])(bv:kd<=2)
 (c1:fI s.C (s.ds.set j y)) (nms':List Nm) (av:∀(v:Nat) (m:Nm),s.nms[v]?=some m->nms'[v]?=some m) (c2:nms'.Nodup)
 (bo:∀u∈x.L,u∈y.L) (bp:∀u∈y.L,0<=u/\u<nms'.length)
 (b7:j≠k->(y.L=x.L/\(own x.acts x.on=none->own y.acts y.on=none)))
 (b4:∀m,¬ex' m->ex m->∀r,s.T.rw m=some r->(r.sa=1->s.roots m=none/\∃v∈y.L,nms'[v.toNat]?=some m)/\(r.sa=4->∃v∈y.L,nms'[v.toNat]?=some m))
 (bx:kk=1/\j=k/\kd=0\/kk=2/\j=k/\kd=1/\th.run=false\/kk=3/\j≠k/\kd=2/\th.run=false/\(s.dq k).L= []):
 aK G {s with ds:=s.ds.set j y,nms:=nms',ths:=s.ths.set k {th with act:=some (j,x.acts.length),kn:=kk}} ex':=by
 have bz:k<s.ths.length:=(gS a5).1;have a4:j<s.ds.length:=(gS a0).1;have b2:=o.th k th a5;obtain⟨g,A⟩:=eX ({s with ds:=s.ds.set j y,nms:=nms',ths:=s.ths.set k {th with act:=some (j,x.acts.length),kn:=kk}}:PS);rw[<-A];have D:g.ds=s.ds.set j y:=by rw[A]
 have a7:g.ths=s.ths.set k {th with act:=some (j,x.acts.length),kn:=kk}:=by rw[A]
 have Z:g.T=s.T:=by rw[A]
 have a6:g.nms=nms':=by rw[A]
 have br:g.dq j=y:=PS.dq_eq (by rw[D];exact bH a4);have ab:∀l,l≠j->g.dq l=s.dq l:=λl w=>by unfold PS.dq;rw[D,yc,yc,dG w]
 have b5:∀m,s.inL m->g.inL m:=by
  rintro m ⟨l,z,v,d,e,E⟩
  by_cases w:l=j
  ·subst w
   rw[a0] at d
   cases d
   exact⟨l,y,v,by rw[D];exact bH a4,bo v e,by rw[a6];exact av _ _ E⟩
  ·exact⟨l,z,v,by rw[D,dG w];exact d,e,by rw[a6];exact av _ _ E⟩
 have b6:∀m,(∃v∈y.L,nms'[v.toNat]?=some m)->g.inL m:=by
  rintro m ⟨v,d,e⟩;exact⟨j,y,v,by rw[D];exact bH a4,d,by rw[a6];exact e⟩
 have c5:s.nms.length<=nms'.length:=by
  rcases zO nms'.length s.nms.length with c0|bt
  ·have:=av nms'.length (s.nms[nms'.length]) (gG c0)
   rw[zv (lR)] at this
   cases this
  ·exact bt
 refine⟨by rw[Z];exact o.t,by rw[A];exact o.progs,by rw[D,A];exact c1,λz K b Q=>?_,by rw[D,yI,a7,yI];exact o.nlen,λz K b9 hv=>?_,by rw[a6];exact c2,λl q F=>?_,λl l' q a8 H F R d e=>?_,λl l' q a8 c4 H F R d=>?_,
  λm r' d e E=>?_,λm r' d e E=>?_,λm r' d e=>?_,by rw[A];exact o.outN,by rw[A];exact o.known,by rw[A];exact o.roots⟩
 ·rw[D] at K
  rcases mS K with rfl|K
  ·rw[az] at Q
   rcases yH.1 Q with Q|Q
   ·exact o.kinds x (yh a0) b Q
   ·rw[yw.1 Q];exact bv
  ·exact o.kinds z K b Q
 ·rw[D] at K
  rw[a6]
  rcases mS K with rfl|K
  ·exact bp b9 hv
  ·have:=o.vals z K b9 hv;omega
 ·rw[a7] at F
  rcases dH F with⟨rfl,rfl⟩|⟨an,S⟩
  ·refine⟨by rw[Z];exact b2.run,λc=>by simp at c,λa1 b8 c=>?_⟩
   simp only[yC,yP] at c;obtain⟨rfl,rfl⟩:=c;refine⟨y,cQ kd v,by rw[D];exact bH a4,by rw[az];simp,rfl,?_⟩
   rcases bx with⟨rfl,rfl,rfl⟩|⟨rfl,rfl,rfl,B⟩|⟨rfl,e,rfl,B,N⟩
   ·exact .inl ⟨rfl,rfl,rfl⟩
   ·exact .inr (.inl ⟨rfl,rfl,rfl,B⟩)
   ·refine .inr (.inr ⟨rfl,e,rfl,B,?_,?_⟩)
    ·rw[ab l (λc=>e c.symm)];exact N
    ·rw[ab l (λc=>e c.symm)];exact b2.free bq
  ·have al:=o.th l q S
   have b3:((s.dq l).L= []->(g.dq l).L= []\/j=k)/\(own (s.dq l).acts (s.dq l).on=none->own (g.dq l).acts (g.dq l).on=none\/j=k):=by
    by_cases w:l=j
    ·subst w
     rw[br,PS.dq_eq a0]
     by_cases P:l=k
     ·exact⟨λ_=>.inr P,λ_=>.inr P⟩
     ·exact⟨λc=>.inl (by rw[(b7 P).1];exact c),λc=>.inl ((b7 P).2 c)⟩
    ·rw[ab l w]
     exact⟨λc=>.inl c,λc=>.inl c⟩
   have am:((s.dq l).L= []->(g.dq l).L= [])/\(own (s.dq l).acts (s.dq l).on=none->own (g.dq l).acts (g.dq l).on=none):=by
    by_cases w:l=j
    ·have P:j≠k:=λc=>an (w.trans c)
     exact⟨λc=>(b3.1 c).resolve_right P,λc=>(b3.2 c).resolve_right P⟩
    ·rw[ab l w];exact⟨λc=>c,λc=>c⟩
   refine⟨by rw[Z];exact al.run,λc=>am.2 (al.free c),λa1 b8 c=>?_⟩;obtain⟨ba,W,Y,a2,b0,a3⟩:=al.act a1 b8 c
   have b1:q.kn=1/\a1=l/\W.kn=0\/q.kn=2/\a1=l/\W.kn=1/\q.run=false\/q.kn=3/\a1≠l/\W.kn=2/\q.run=false/\(g.dq l).L= []/\own (g.dq l).acts (g.dq l).on=none:=by
    rcases a3 with a3|a3|⟨bb,bc,bf,bk,bm,bn⟩
    ·exact .inl a3
    ·exact .inr (.inl a3)
    ·exact .inr (.inr ⟨bb,bc,bf,bk,am.1 bm,am.2 bn⟩)
   by_cases aE:a1=j
   ·subst aE
    rw[a0] at Y
    cases Y
    exact⟨y,W,by rw[D];exact bH a4,by rw[az,yi (gS a2).1];exact a2,b0,b1⟩
   ·exact⟨ba,W,by rw[D,dG aE];exact Y,a2,b0,b1⟩
 ·rw[a7] at F R
  rcases dH F with⟨a9,ad⟩|⟨an,S⟩
  ·rcases dH R with⟨X,_⟩|⟨ar,V⟩
   ·exact absurd (a9.trans X.symm) H
   ·rw[ad] at d ⊢
    rw[a9] at H;exact o.one k l' th a8 H a5 V d e
  ·rcases dH R with⟨X,ai⟩|⟨ar,V⟩
   ·rw[ai] at e ⊢
    rw[X] at H;exact o.one l k q th H S a5 d e
   ·exact o.one l l' q a8 H S V d e
 ·rw[a7] at F R
  have key:∀(l:Nat) (q:Th),s.ths[l]?=some q->q.act≠some (j,x.acts.length):=by
   intro l q F c;obtain⟨ba,W,Y,a2,_⟩:=(o.th l q F).act _ _ c;rw[a0] at Y
   cases Y
   have:=(gS a2).1;omega
  rcases dH F with⟨a9,ad⟩|⟨an,S⟩
  ·rcases dH R with⟨X,_⟩|⟨ar,V⟩
   ·exact absurd (a9.trans X.symm) H
   ·rw[ad] at d
    simp only at d;rw[<-d];exact key l' a8 V
  ·rcases dH R with⟨X,ai⟩|⟨ar,V⟩
   ·rw[ai]
    simp only;rw[<-d];exact λc=>key l q S c.symm
   ·exact o.acts l l' q a8 c4 H S V d
 ·rw[Z] at d
  have aw:g.queue=s.queue:=by rw[A]
  have c3:g.roots=s.roots:=by rw[A]
  rw[aw,c3]
  by_cases c:ex m
  ·have:=(b4 m E c r' d).1 e
   exact .inr ⟨this.1,b6 m this.2⟩
  ·rcases o.ready m r' d e c with B|⟨B,N⟩
   ·exact .inl B
   ·exact .inr ⟨B,b5 m N⟩
 ·rw[Z] at d
  have aw:g.queue=s.queue:=by rw[A]
  rw[aw]
  by_cases c:ex m
  ·exact .inr (b6 m ((b4 m E c r' d).2 e))
  ·rcases o.wakes m r' d e c with B|N
   ·exact .inl B
   ·exact .inr (b5 m N)
 ·rw[Z] at d
  obtain⟨l,q,E,B,N⟩:=o.runs m r' d e;rw[a7]
  by_cases w:l=k
  ·subst w
   rw[a5] at E
   cases E
   exact⟨l,_,bH bz,B,N⟩
  ·exact⟨l,q,by rw[dG w];exact E,B,N⟩
theorem aK.dqk(b:aK G s ex)(c:s.ths[k]?=some th):s.ds[k]?=some (s.dq k):=by
 have:k<s.ds.length:=by rw[b.nlen];exact(gS c).1
 exact fK this
theorem aK.push(c:aK G s ex)(e:s.ths[k]?=some th)(l:th.act=none)(n:Nm)(A:∀r,s.T.rw n=some r->r.sa=1->s.roots n=none):aK G (eJ s k n) (λm=>ex m/\m≠n):=by
 have g:=c.dqk e;obtain⟨q,C,F,H,D⟩:=wZ s.nms n;unfold eJ;rw[PS.th_eq e];have z:=(c.th k th e).free l;have E:(eT s.nms n).1<(eT s.nms n).2.length:=(gS q).1;refine c.newAct (kd:=0) (v:=((eT s.nms n).1:Int)) e l g rfl (by omega) ?_ _ C (D c.nnodup) (λu d=>by simp[eU,d]) (λu d=>?_) (λb=>absurd rfl b) (λm w y r B=>?_) (.inl ⟨rfl,rfl,rfl⟩)
 ·have:=uh c.many g z 0 ((eT s.nms n).1:Int) (.inl rfl)
  simpa[eU] using this
 ·simp only[eU,yH,yw] at d
  rcases d with d|rfl
  ·have:=c.vals _ (yh g) u d;omega
  ·omega
 ·have b:m=n:=by
   by_cases b:m=n
   ·exact b
   ·exact absurd ⟨y,b⟩ w
  subst b;have o:∃v∈(eU (s.dq k) ((eT s.nms m).1:Int)).L,(eT s.nms m).2[v.toNat]?=some m:=⟨((eT s.nms m).1:Int),by simp[eU],by simpa using q⟩
  exact⟨λb=>⟨A r B b,o⟩,λ_=>o⟩
theorem aK.pop(b:aK G s ex)(c:s.ths[k]?=some th)(l:th.act=none)(y:th.run=false):aK G (lh s k) ex:=by
 have g:=b.dqk c;unfold lh;rw[PS.th_eq c];have w:=(b.th k th c).free l;refine b.newAct (nms':=s.nms) (kd:=1) (v:=0) c l g rfl (by omega) ?_ (λv m d=>d) b.nnodup (λu e=>e) (λu e=>b.vals _ (yh g) u e) (λd=>absurd rfl d) (λm o q=>absurd q o) (.inr (.inl ⟨rfl,rfl,rfl,y⟩));have:=uh b.many g w 1 0 (.inr rfl)
 simpa[nI] using this
theorem aK.steal(b:aK G s ex)(g:s.ths[k]?=some th)(w:th.act=none)(A:th.run=false)(y:j<s.ds.length)(z:j≠k)(q:(s.dq k).L= []):aK G (jr s k j) ex:=by
 have c:s.ds[j]?=some (s.dq j):=fK y;unfold jr;rw[PS.th_eq g];refine b.newAct (nms':=s.nms) (kd:=2) (v:=0) g w c rfl (by omega) ?_ (λv m d=>d) b.nnodup (λu e=>e) (λu e=>b.vals _ (yh c) u e) (λ_=>⟨rfl,λd=>?_⟩) (λm l o=>absurd o l) (.inr (.inr ⟨rfl,z,rfl,A,q⟩))
 ·exact wV b.many c
 ·simp only[lE]
  rw[rq (b.many.each j _ c).onk];exact d
end
end
end Go.Proofs.YtmdocplknceilaaGreat
