import Derived.Handy
import Derived.Test.YtmdocplknceilaaGreatNWAH
set_option linter.all false
namespace Go.Proofs.YtmdocplknceilaaGreat
section
structure bI where
 k:Int
 d:Int
 a:Int
 b:Int
 n:Int
structure ah where
 args:Int
 rg:Int
 ops:List bI
structure aj where
 M:List UInt8
 fn:Int
 args:List Int
 fuel:Nat
structure aD where
 v:Int
 e:Int
def nO:bI:=⟨0,0,0,0,0⟩
def fn0:ah:=⟨0,0,[]⟩
def bG(p:List ah)(fn:Int):ah:=p.getD fn.toNat fn0
def bu(p:List ah)(fn at_:Int):bI:=(bG p fn).ops.getD at_.toNat nO
def jh(regs:List Int)(d x:Int):List Int:=regs.set d.toNat x
def ct(regs:List Int)(a:Int):Int:=regs.getD a.toNat 0
def dt(k a b:Int):Option Int:=
 if k=2 then some a
 else if k=3 then some (IntKind.i64.wrap (a+b))
 else if k=4 then some (IntKind.i64.wrap (a-b))
 else if k=5 then some (IntKind.i64.wrap (a*b))
 else if k=6 then if b=0 then none else some (IntKind.i64.wrap (a.tdiv b))
 else if k=7 then if b=0 then none else some (IntKind.i64.wrap (a.tmod b))
 else if k=8 then some (if a<b then 1 else 0)
 else some (if a=b then 1 else 0)
def dE(o:bI)(regs:List Int)(at_:Int):Option (List Int×Int):=
 if o.k=1 then some (jh regs o.d o.n,at_)
 else if o.k=10 then some (regs,o.n)
 else if o.k=11 then some (regs,if ct regs o.a≠0 then o.n else at_)
 else match dt o.k (ct regs o.a) (ct regs o.b) with
  |none=>none
  |some x=>some (jh regs o.d x,at_)
def cC:List (Int×aD)->Int
 | []=>0
 |c :: l=>if c.2.e≠0 then c.2.e else cC l
def dC:List (Int×aD)->List Int->List Int
 | [],regs=>regs
 |c :: l,regs=>dC l (jh regs c.1 c.2.v)
def gW(p:List ah)(fn:Int)(args:List Int):List Int:=args++List.replicate ((bG p fn).rg.toNat-args.length) 0
def dc(p:List ah)(path:List UInt8)(kids:Nat)(o:bI)(regs:List Int)(left:Nat):aj:=
 ⟨path++ [UInt8.ofNat (kids+1)],o.n,(regs.drop o.a.toNat).take (bG p o.n).args.toNat,left / 2⟩
def cN(p:List ah)(path:List UInt8)(fn:Int)(left:Nat)(regs:List Int)(at_:Int)(kids:Nat)(ws:List (Int×aD)):aD×List aj:=
 match left with
 |0=>(⟨0,130⟩,[])
 |l+1=>
  let o:=bu p fn at_
  if o.k=12 then
   if 16<=kids then(⟨0,132⟩,[])
   else if 12<=path.length then(⟨0,133⟩,[])
   else
    let t:=dc p path kids o regs l
    let x:=(cN p t.M t.fn (l / 2) (gW p t.fn t.args) 0 0 []).1
    let y:=cN p path fn (l-l / 2) regs (at_+1) (kids+1) (ws++ [(o.d,x)])
    (y.1,t :: y.2)
  else if o.k=13 then
   if cC ws≠0 then(⟨0,cC ws⟩,[]) else cN p path fn l (dC ws regs) (at_+1) kids []
  else if o.k=14 then
   if cC ws≠0 then(⟨0,cC ws⟩,[]) else(⟨ct (dC ws regs) o.a,0⟩,[])
  else match dE o regs (at_+1) with
   |none=>(⟨0,131⟩,[])
   |some x=>cN p path fn l x.1 x.2 kids ws
termination_by left
decreasing_by all_goals omega
def qk(p:List ah)(t:aj):aD×List aj:=cN p t.M t.fn t.fuel (gW p t.fn t.args) 0 0 []
def bH(p:List ah)(t:aj):aD:=(qk p t).1
def aS(p:List ah)(t:aj):List aj:=(qk p t).2
theorem oH(p:List ah)(path:List UInt8)(fn:Int):∀(left:Nat) (regs:List Int) (at_:Int) (kids:Nat) (ws:List (Int×aD)),
 (∀t∈(cN p path fn left regs at_ kids ws).2,t.fuel<left)/\(((cN p path fn left regs at_ kids ws).2.map λt=>t.fuel+1).sum<=left)/\
 (∀i t,(cN p path fn left regs at_ kids ws).2[i]?=some t->t.M=path++ [UInt8.ofNat (kids+i+1)]/\kids+i<16/\path.length<12):=by
 intro left
 induction left using Nat.strongRecOn with
 |_ left e=>
  intro regs at_ kids ws;unfold cN
  cases left with
  |zero=>simp
  |succ l=>
   simp only;split
   ·split
    ·simp
    ·split
     ·simp
     ·rename_i q u v
      have a:=e (l-l / 2) (by omega) regs (at_+1) (kids+1) (ws++ [((bu p fn at_).d,(cN p (dc p path kids (bu p fn at_) regs l).M (dc p path kids (bu p fn at_) regs l).fn (l / 2) (gW p (dc p path kids (bu p fn at_) regs l).fn (dc p path kids (bu p fn at_) regs l).args) 0 0 []).1)]);obtain⟨g,j,o⟩:=a;refine⟨λt b=>?_,?_,λi t c=>?_⟩
      ·rcases yG.1 b with rfl|b
       ·simp only[dc];omega
       ·have:=g t b;omega
      ·simp only[zc,zH,dc]
       simp only[dc] at j;omega
      ·cases i with
       |zero=>
        simp only[zQ,yC] at c;subst c;exact⟨rfl,by omega,by omega⟩
       |succ i=>
        have:=o i t (by simpa using c);refine⟨by rw[this.1];congr 3;omega,by omega,this.2.2⟩
   ·split
    ·split
     ·simp
     ·have a:=e l (by omega) (dC ws regs) (at_+1) kids []
      exact⟨λt b=>by have:=a.1 t b;omega,by have:=a.2.1;omega,a.2.2⟩
    ·split
     ·split<;>simp
     ·split
      ·simp
      ·rename_i x _
       have a:=e l (by omega) x.1 x.2 kids ws;exact⟨λt b=>by have:=a.1 t b;omega,by have:=a.2.1;omega,a.2.2⟩
theorem gT{p:List ah}{t k:aj}(a:k∈aS p t):k.fuel<t.fuel:=(oH p t.M t.fn t.fuel _ 0 0 []).1 k a
theorem Ay(p:List ah)(t:aj):((aS p t).map λk=>k.fuel+1).sum<=t.fuel:=(oH p t.M t.fn t.fuel _ 0 0 []).2.1
theorem eB{p:List ah}{t k:aj}{i:Nat}(a:(aS p t)[i]?=some k):k.M=t.M++ [UInt8.ofNat (i+1)]/\i<16/\t.M.length<12:=by
 have:=(oH p t.M t.fn t.fuel _ 0 0 []).2.2 i k a
 simpa using this
structure cW where
 tk:aj
 res:aD
 kd:Nat
def aK(p:List ah)(t:aj):List cW:=
 ⟨t,bH p t,(aS p t).length⟩ :: ((aS p t).attach.flatMap λk=>aK p k.1)
termination_by t.fuel
decreasing_by exact gT k.2
theorem fG(p:List ah)(t:aj):aK p t=⟨t,bH p t,(aS p t).length⟩ :: (aS p t).flatMap (aK p):=by
 rw[aK]
 congr 1
 rw[List.flatMap_subtype (g:=aK p) (by simp)];simp
structure cZ where
 into:Int
 given:Bool
 r:aD
structure Fr where
 M:List UInt8
 fn:Int
 left:Nat
 rg:List Int
 at_:Int
 kd:List cZ
 joined:Nat
 waits:Option bI
 result:Option aD
inductive iR where
 |more
 |fork (t:aj)
 |join
 |done (r:aD)
def Fr.begun(p:List ah)(t:aj):Fr:=⟨t.M,t.fn,t.fuel,gW p t.fn t.args,0,[],0,none,none⟩
def Fr.ended(f:Fr)(r:aD):Fr×Option iR:=({f with result:=some r},some (.done r))
def Fr.os(f:Fr):List cZ:=f.kd.drop f.joined
def ed(l:List cZ):List (Int×aD):=l.map λc=>(c.into,c.r)
def Fr.joins(f:Fr)(o:bI):Fr×Option iR:=
 if f.os.any (λc=>!c.given)=true then({f with waits:=some o},some .join)
 else
  let f':Fr:={f with waits:=none,joined:=f.kd.length}
  if cC (ed f.os)≠0 then f'.ended ⟨0,cC (ed f.os)⟩
  else
   let f2:Fr:={f' with rg:=dC (ed f.os) f.rg}
   if o.k=14 then f2.ended ⟨ct f2.rg o.a,0⟩ else(f2,none)
def Fr.forks(p:List ah)(f:Fr)(o:bI):Fr×Option iR:=
 if 16<=f.kd.length then f.ended ⟨0,132⟩
 else if 12<=f.M.length then f.ended ⟨0,133⟩
 else
  let t:=dc p f.M f.kd.length o f.rg f.left
  ({f with left:=f.left-f.left / 2,kd:=f.kd++ [⟨o.d,false,⟨0,0⟩⟩]},some (.fork t))
def Fr.step(p:List ah)(f:Fr):Fr×Option iR:=
 if f.left=0 then f.ended ⟨0,130⟩
 else
  let o:=bu p f.fn f.at_
  let f':Fr:={f with left:=f.left-1,at_:=f.at_+1}
  if o.k=12 then f'.forks p o
  else if o.k=13\/o.k=14 then f'.joins o
  else match dE o f.rg (f.at_+1) with
   |none=>f'.ended ⟨0,131⟩
   |some x=>({f' with rg:=x.1,at_:=x.2},none)
def cz(x:Fr×Option iR):Fr×iR:=(x.1,x.2.getD .more)
def Fr.run1(p:List ah)(f:Fr):Fr×iR:=
 match f.waits with
 |none=>cz (f.step p)
 |some o=>
  match f.joins o with
  |(f',some s)=>(f',s)
  |(f',none)=>cz (f'.step p)
def Fr.waitsOf(f:Fr):List Nat:=(List.range f.kd.length).filter λi=>!(f.kd.getD i ⟨0,true,⟨0,0⟩⟩).given
def Fr.give(f:Fr)(i:Nat)(r:aD):Fr:={f with kd:=f.kd.set i ⟨(f.kd.getD i ⟨0,true,⟨0,0⟩⟩).into,true,r⟩}
structure gF(f:Fr)(ks:List aD):Prop where
 len:ks.length=f.kd.length
 val:∀(i:Nat) c r,f.kd[i]?=some c->ks[i]?=some r->c.given=true->c.r=r
 joined:f.joined<=f.kd.length
 old:∀(i:Nat) c,f.kd[i]?=some c->i<f.joined->c.given=true
def Fr.ws(f:Fr)(ks:List aD):List (Int×aD):=List.zip (f.os.map (·.into)) (ks.drop f.joined)
def gE(p:List ah)(f:Fr)(ks:List aD):aD×List aj:=
 match f.waits with
 |none=>cN p f.M f.fn f.left f.rg f.at_ f.kd.length (f.ws ks)
 |some o=>
  if cC (f.ws ks)≠0 then(⟨0,cC (f.ws ks)⟩,[])
  else if o.k=14 then(⟨ct (dC (f.ws ks) f.rg) o.a,0⟩,[])
  else cN p f.M f.fn f.left (dC (f.ws ks) f.rg) f.at_ f.kd.length []
section
variable {p:List ah}{f:Fr}{ks:List aD}
theorem eG(f:Fr):f.os.length=f.kd.length-f.joined:=by simp[Fr.os]
theorem gF.ws_len(a:gF f ks):(f.ws ks).length=f.kd.length-f.joined:=by
 simp[Fr.ws,eG,a.len]
theorem CE(a:gF f ks)(j:f.os.any (λc=>!c.given)=false):ed f.os=f.ws ks:=by
 apply List.ext_getElem
 ·simp[ed,a.ws_len,eG]
 ·intro i g o
  have d:i<f.os.length:=by simpa[ed] using g
  have e:f.joined+i<f.kd.length:=by rw[eG] at d;omega
  have b:f.os[i] =f.kd[f.joined+i]:=by simp[Fr.os]
  have l:f.os[i].given=true:=by
   have:=zI.1 j _ (yN d)
   simpa using this
  have hv:=a.val (f.joined+i) f.kd[f.joined+i] (ks[f.joined+i]'(by rw[a.len];exact e)) (gG e) (gG _) (by rw[<-b];exact l);simp only[ed,Fr.ws,List.getElem_map,List.getElem_zip,List.getElem_drop,b,hv]
theorem xS(p:List ah)(t:aj):gE p (Fr.begun p t) [] =qk p t:=rfl
theorem gF.begun(p:List ah)(t:aj):gF (Fr.begun p t) []:=⟨rfl,λi c r a=>by simp[Fr.begun] at a,lR,λi c a=>by simp[Fr.begun] at a⟩
theorem gF.give(b:gF f ks){i:Nat}{r:aD}(o:ks[i]?=some r):gF (f.give i r) ks:=by
 refine⟨by simpa[Fr.give] using b.len,λj c x a d g=>?_,by simpa[Fr.give] using b.joined,λj c a l=>?_⟩
 ·simp only[Fr.give,zg] at a
  split at a
  ·rename_i e
   subst e;split at a
   ·cases a;rw[o] at d;exact yz d
   ·cases a
  ·exact b.val j c x a d g
 ·simp only[Fr.give,zg] at a
  split at a
  ·split at a
   ·cases a;rfl
   ·cases a
  ·exact b.old j c a l
theorem DS(c:gF f ks)(i:Nat)(r:aD):(f.give i r).ws ks=f.ws ks:=by
 unfold Fr.ws
 congr 1
 apply zt;intro j;simp only[Fr.os,Fr.give,yJ,zN,zg];split
 ·rename_i b
  subst b;split
  ·rename_i a
   simp[a]
  ·rename_i a
   simp[yA a]
 ·rfl
theorem Cb(a:gF f ks)(i:Nat)(r:aD):gE p (f.give i r) ks=gE p f ks:=by
 unfold gE;rw[DS a];simp[Fr.give]
theorem og(a:gF f ks)(o:bI)(A:f.waits=none\/f.waits=some o):
 (∃f',f.joins o=(f',some .join)/\gF f' ks/\f'= {f with waits:=some o}/\∃(i:Nat) (c:cZ),f.kd[i]?=some c/\c.given=false)\/
 (∃f' r,f.joins o=(f',some (.done r))/\f'.kd=f.kd/\f'.result=some r/\(∀g:Fr,g= {f with waits:=some o}->gE p g ks=(r,[])))\/
 (∃f',f.joins o=(f',none)/\gF f' ks/\f'.waits=none/\f'.left=f.left/\f'.M=f.M/\f'.fn=f.fn/\f'.at_=f.at_/\f'.kd=f.kd/\f'.result=f.result/\o.k≠14/\(∀g:Fr,g= {f with waits:=some o}->gE p g ks=gE p f' ks)):=by
 unfold Fr.joins
 by_cases l:f.os.any (λc=>!c.given)=true
 ·rw[yf l]
  refine .inl ⟨_,rfl,⟨a.len,a.val,a.joined,a.old⟩,rfl,?_⟩;obtain⟨c,x,z⟩:=zT.1 l;obtain⟨i,b⟩:=yF x;refine⟨f.joined+i,c,by simpa[Fr.os] using b,by simpa using z⟩
 ·rw[yb l]
  have q:f.os.any (λc=>!c.given)=false:=by simpa using l
  have v:=CE a q
  have w:∀(i:Nat) c,f.kd[i]?=some c->c.given=true:=by
   intro i c b
   by_cases y:i<f.joined
   ·exact a.old i c b y
   ·have:f.os[i-f.joined]?=some c:=by
     simp only[Fr.os,zN];rw[show f.joined+(i-f.joined)=i by omega];exact b
    have:=zI.1 q c (yh this)
    simpa using this
  rw[v];simp only
  by_cases d:cC (f.ws ks)≠0
  ·rw[yf d]
   refine .inr (.inl ⟨_,_,rfl,rfl,rfl,λg e=>?_⟩);subst e;have:Fr.ws {f with waits:=some o} ks=f.ws ks:=rfl;simp only[gE,this,yf d]
  ·rw[yb d]
   by_cases j:o.k=14
   ·rw[yf j]
    refine .inr (.inl ⟨_,_,rfl,rfl,rfl,λg e=>?_⟩);subst e;have:Fr.ws {f with waits:=some o} ks=f.ws ks:=rfl;simp only[gE,this,yb d,yf j]
   ·rw[yb j]
    refine .inr (.inr ⟨_,rfl,⟨a.len,a.val,lR,λi c b _=>w i c b⟩,rfl,rfl,rfl,rfl,rfl,rfl,rfl,j,λg e=>?_⟩);subst e;have u:Fr.ws {f with waits:=some o} ks=f.ws ks:=rfl;simp only[gE,u,yb d,yb j]
    congr 1
    simp[Fr.ws,Fr.os]
structure lI(p:List ah)(f:Fr)(ks:List aD)(x:Fr×iR):Prop where
 M:x.1.M=f.M
 fn:x.1.fn=f.fn
 mo:x.2=.more->gF x.1 ks/\gE p x.1 ks=gE p f ks/\x.1.result=none/\x.1.kd=f.kd/\x.1.left<f.left
 join:x.2=.join->gF x.1 ks/\gE p x.1 ks=gE p f ks/\x.1.result=none/\x.1.kd=f.kd/\x.1.left<=f.left/\x.1.waits≠none/\∃(i:Nat) (c:cZ),x.1.kd[i]?=some c/\c.given=false
 fork:∀t,x.2=.fork t->gF x.1 (ks++ [bH p t])/\gE p f ks=((gE p x.1 (ks++ [bH p t])).1,t :: (gE p x.1 (ks++ [bH p t])).2)/\x.1.result=none/\x.1.waits=none/\
  x.1.kd.length=f.kd.length+1/\t.M=f.M++ [UInt8.ofNat (f.kd.length+1)]/\f.kd.length<16/\f.M.length<12/\x.1.left+t.fuel+1<=f.left/\(∀(i:Nat) c,f.kd[i]?=some c->x.1.kd[i]?=some c)
 done:∀r,x.2=.done r->gE p f ks=(r,[])/\x.1.kd=f.kd/\x.1.result=some r
theorem vm(j:gF f ks)(w:f.waits=none)(C:f.result=none):lI p f ks (cz (f.step p)):=by
 have b:gE p f ks=cN p f.M f.fn f.left f.rg f.at_ f.kd.length (f.ws ks):=by simp only[gE,w]
 unfold Fr.step
 by_cases H:f.left=0
 ·rw[yf H]
  refine⟨rfl,rfl,λa=>(by cases a),λa=>(by cases a),λt a=>(by cases a),λr a=>?_⟩
  cases a
  rw[b,H,cN];exact⟨rfl,rfl,rfl⟩
 ·rw[yb H]
  obtain⟨l,S⟩ :∃l,f.left=l+1:=⟨f.left-1,by omega⟩
  rw[S,cN] at b;simp only[S,Nat.add_sub_cancel];simp only at b;generalize bu p f.fn f.at_=o at*
  by_cases L:o.k=12
  ·rw[yf L] at b ⊢
   unfold Fr.forks;simp only
   by_cases N:16<=f.kd.length
   ·rw[yf N] at b ⊢
    refine⟨rfl,rfl,λa=>(by cases a),λa=>(by cases a),λt a=>(by cases a),λr a=>?_⟩
    cases a
    exact⟨b,rfl,rfl⟩
   ·rw[yb N] at b ⊢
    by_cases P:12<=f.M.length
    ·rw[yf P] at b ⊢
     refine⟨rfl,rfl,λa=>(by cases a),λa=>(by cases a),λt a=>(by cases a),λr a=>?_⟩
     cases a
     exact⟨b,rfl,rfl⟩
    ·rw[yb P] at b ⊢
     refine⟨rfl,rfl,λa=>(by cases a),λa=>(by cases a),λt a=>?_,λr a=>(by cases a)⟩;simp only[cz,zU,iR.fork.injEq] at a;subst a;have R:=j.joined;refine⟨⟨by simp[cz,j.len],λi c r e T Q=>?_,by simp[cz];omega,λi c e u=>?_⟩,?_,C,w,by simp[cz],rfl,by omega,by omega,?_,λi c e=>?_⟩
     ·simp only[cz] at e
      rw[List.getElem?_append] at e;split at e
      ·rename_i u
       rw[yi (by rw[j.len];exact u)] at T;exact j.val i c r e T Q
      ·rename_i u
       rcases hn:i-f.kd.length with _|m
       ·rw[hn] at e;simp at e;subst e;simp at Q
       ·rw[hn] at e;simp at e
     ·simp only[cz] at e u
      rw[yi (by omega)] at e;exact j.old i c e u
     ·rw[b]
      simp only[cz,gE,w];have E:bH p (dc p f.M f.kd.length o f.rg l)=(cN p (dc p f.M f.kd.length o f.rg l).M (dc p f.M f.kd.length o f.rg l).fn (l / 2) (gW p (dc p f.M f.kd.length o f.rg l).fn (dc p f.M f.kd.length o f.rg l).args) 0 0 []).1:=rfl
      have V:∀(g:Fr),g.kd=f.kd++ [⟨o.d,false,⟨0,0⟩⟩]->g.joined=f.joined->∀x,g.ws (ks++ [x])=f.ws ks++ [(o.d,x)]:=by
       intro g X Y x;unfold Fr.ws Fr.os;rw[X,Y,List.drop_append_of_le_length R,List.drop_append_of_le_length (by rw[j.len];exact R),yS,List.zip_append]
       ·rfl
       ·simp[j.len]
      have W:=V ⟨f.M,f.fn,l-l / 2,f.rg,f.at_+1,f.kd++ [⟨o.d,false,⟨0,0⟩⟩],f.joined,none,f.result⟩ rfl rfl (bH p (dc p f.M f.kd.length o f.rg l));rw[W,E];simp
     ·simp only[cz,dc];omega
     ·simp only[cz]
      rw[yi (gS e).1];exact e
  ·rw[yb L] at b ⊢
   by_cases B:o.k=13\/o.k=14
   ·rw[yf B]
    have Z:gF {f with left:=l,at_:=f.at_+1} ks:=⟨j.len,j.val,j.joined,j.old⟩
    have F:gE p {{f with left:=l,at_:=f.at_+1} with waits:=some o} ks=gE p f ks:=by
     rw[b];have E:Fr.ws {f with left:=l,at_:=f.at_+1,waits:=some o} ks=f.ws ks:=rfl;simp only[gE,E]
     by_cases A:o.k=13
     ·have q:o.k≠14:=by omega
      rw[yf A,yb q]
     ·have q:o.k=14:=by omega
      rw[yb A,yf q,yf q]
    rcases og (p:=p) Z o (.inl w) with⟨f',a,y,D,i,c,z,K⟩|⟨f',r,a,y,D,z⟩|⟨f',a,y,D,z,K,a1,a4,a2,a3,a5,a0⟩
    ·rw[a]
     subst D;refine⟨rfl,rfl,λa=>(by cases a),λa=>⟨y,F,C,rfl,by simp[cz];omega,by simp[cz],i,c,z,K⟩,λt a=>(by cases a),λr a=>(by cases a)⟩
    ·rw[a]
     have v:f'.M=f.M/\f'.fn=f.fn:=by
      have:=yl Prod.fst a;unfold Fr.joins at this;simp only at this;split at this
      ·subst this;exact⟨rfl,rfl⟩
      ·split at this
       ·subst this;exact⟨rfl,rfl⟩
       ·split at this<;>·subst this;exact⟨rfl,rfl⟩
     refine⟨v.1,v.2,λa=>(by cases a),λa=>(by cases a),λt a=>(by cases a),λr' a=>?_⟩
     cases a
     exact⟨by rw[<-F,z _ rfl],y,D⟩
    ·rw[a]
     refine⟨K,a1,λ_=>⟨y,by rw[<-F,a0 _ rfl];rfl,by rw[show(cz (f',none)).1=f' from rfl,a3];exact C,a2,?_⟩,λa=>(by cases a),λt a=>(by cases a),λr a=>(by cases a)⟩;show f'.left<f.left;rw[z];simp only;omega
   ·rw[yb B]
    have A:o.k≠13:=λa=>B (.inl a)
    have q:o.k≠14:=λa=>B (.inr a)
    rw[yb A,yb q] at b
    cases v:dE o f.rg (f.at_+1) with
    |none=>
     rw[v] at b;refine⟨rfl,rfl,λa=>(by cases a),λa=>(by cases a),λt a=>(by cases a),λr' a=>?_⟩
     cases a
     exact⟨b,rfl,rfl⟩
    |some x=>
     rw[v] at b;refine⟨rfl,rfl,λ_=>⟨⟨j.len,j.val,j.joined,j.old⟩,?_,C,rfl,by simp[cz];omega⟩,λa=>(by cases a),λt a=>(by cases a),λr a=>(by cases a)⟩;rw[b];simp only[cz,gE,w];rfl
theorem jS(A:gF f ks)(B:f.result=none):lI p f ks (f.run1 p):=by
 unfold Fr.run1
 cases hw:f.waits with
 |none=>exact vm A hw B
 |some o=>
  simp only;have C:f= {f with waits:=some o}:=by cases f;simp only at hw;rw[hw]
  rcases og (p:=p) A o (.inr hw) with⟨f',a,w,q,i,c,x,y⟩|⟨f',r,a,w,q,x⟩|⟨f',a,w,q,x,y,N,R,z,P,S,L⟩
  ·rw[a]
   have K:f'=f:=by rw[q];exact C.symm
   subst K;exact⟨rfl,rfl,λa=>(by cases a),λa=>⟨A,rfl,B,rfl,lR,by simp[hw],i,c,x,y⟩,λt a=>(by cases a),λr a=>(by cases a)⟩
  ·rw[a]
   have H:f'.M=f.M/\f'.fn=f.fn:=by
    have:=yl Prod.fst a;unfold Fr.joins at this;simp only at this;split at this
    ·subst this;exact⟨rfl,rfl⟩
    ·split at this
     ·subst this;exact⟨rfl,rfl⟩
     ·split at this<;>·subst this;exact⟨rfl,rfl⟩
   refine⟨H.1,H.2,λa=>(by cases a),λa=>(by cases a),λt a=>(by cases a),λr' a=>?_⟩
   cases a
   exact⟨x f C,w,q⟩
  ·rw[a]
   simp only;have v:=L f C;have g:=vm (p:=p) w q (by rw[P];exact B);refine⟨g.M.trans y,g.fn.trans N,λa=>?_,λa=>?_,λt a=>?_,λr a=>?_⟩
   ·obtain⟨b,d,e,j,u⟩:=g.mo a
    exact⟨b,d.trans v.symm,e,j.trans z,by omega⟩
   ·obtain⟨b,d,e,j,u,l⟩:=g.join a
    exact⟨b,d.trans v.symm,e,j.trans z,by omega,l⟩
   ·obtain⟨b,d,e,j,u,l,E,F,Q,D⟩:=g.fork t a
    rw[z] at u l E D;rw[y] at l F;exact⟨b,v.trans d,e,j,u,l,E,F,by omega,D⟩
   ·obtain⟨b,d,e⟩:=g.done r a
    exact⟨v.trans b,d.trans z,e⟩
end
def bK(p:List ah):aj->List UInt8->Option aj
 |t,[]=>some t
 |t,c :: l=>if c=0 then none else match (aS p t)[c.toNat-1]? with
  |none=>none
  |some k=>bK p k l
section
variable {p:List ah}
theorem gh{i:Nat}(a:i<16):(UInt8.ofNat (i+1)).toNat=i+1:=by
 simp;omega
theorem CC{i:Nat}(b:i<16):UInt8.ofNat (i+1)≠0:=by
 intro a;have:=yl UInt8.toNat a;rw[gh b] at this;simp at this
theorem iN:∀(l:List UInt8) (t u:aj),bK p t l=some u->u.M=t.M++l
 | [],t,u,a=>by cases a;simp
 |c :: l,t,u,a=>by
  unfold bK at a;split at a
  ·cases a
  ·rename_i i
   cases hk:(aS p t)[c.toNat-1]? with
   |none=>rw[hk] at a;cases a
   |some k=>
    rw[hk] at a;have d:=eB hk;have e:=iN l k u a
    have g:UInt8.ofNat (c.toNat-1+1)=c:=by
     have:c.toNat≠0:=λb=>i (UInt8.toNat_inj.1 (by simpa using b))
     rw[show c.toNat-1+1=c.toNat by omega];simp
    rw[e,d.1,g,yY];rfl
theorem li:∀(l m:List UInt8) (t:aj),bK p t (l++m)=(bK p t l).bind λu=>bK p u m
 | [],m,t=>rfl
 |c :: l,m,t=>by
  simp only[Ye,bK];split
  ·rfl
  ·cases (aS p t)[c.toNat-1]? with
   |none=>rfl
   |some k=>exact li l m k
theorem qP{t k:aj}{i:Nat}(a:(aS p t)[i]?=some k):bK p t [UInt8.ofNat (i+1)] =some k:=by
 have b:=(eB a).2.1;simp only[bK,yb (CC b),gh b,Nat.add_sub_cancel,a]
theorem mC{t u k:aj}{l:List UInt8}{i:Nat}(a:bK p t l=some u)(b:(aS p u)[i]?=some k):bK p t (l++ [UInt8.ofNat (i+1)])=some k:=by
 rw[li,a];exact qP b
theorem pM{t k:aj}{l:List UInt8}{c:UInt8}(a:bK p t (l++ [c])=some k):∃(u:aj) (i:Nat),bK p t l=some u/\(aS p u)[i]?=some k/\c=UInt8.ofNat (i+1):=by
 rw[li] at a
 cases hu:bK p t l with
 |none=>rw[hu] at a;cases a
 |some u=>
  rw[hu] at a;simp only[Option.bind_some,bK] at a;split at a
  ·cases a
  ·rename_i d
   cases hk:(aS p u)[c.toNat-1]? with
   |none=>rw[hk] at a;cases a
   |some e=>
    rw[hk] at a
    cases a
    refine⟨u,c.toNat-1,rfl,hk,?_⟩;have:c.toNat≠0:=λb=>d (UInt8.toNat_inj.1 (by simpa using b))
    rw[show c.toNat-1+1=c.toNat by omega];simp
theorem kT:∀(n:Nat) (t:aj),t.fuel<=n->∀x:cW,x∈aK p t↔∃l u,bK p t l=some u/\x=⟨u,bH p u,(aS p u).length⟩:=by
 intro n
 induction n with
 |zero=>
  intro t v x
  have b:aS p t= []:=by
   rcases a:aS p t with _|⟨k,l⟩
   ·rfl
   ·have:=gT (p:=p) (t:=t) (k:=k) (by rw[a];simp)
    omega
  rw[fG,b];simp only[List.flatMap_nil,yw];constructor
  ·rintro rfl
   exact⟨[],t,rfl,by rw[b]⟩
  ·rintro ⟨l,u,a,rfl⟩
   cases l with
   |nil=>cases a;rw[b]
   |cons c l=>
    simp only[bK,b] at a;split at a<;>simp at a
 |succ n e=>
  intro t v x;rw[fG,yG,List.mem_flatMap];constructor
  ·rintro (rfl|⟨k,b,w⟩)
   ·exact⟨[],t,rfl,rfl⟩
   ·have o:=gT b
    obtain⟨l,u,g,j⟩:=(e k (by omega) x).1 w;obtain⟨i,q⟩:=yF b;refine⟨UInt8.ofNat (i+1) :: l,u,?_,j⟩;rw[show UInt8.ofNat (i+1) :: l= [UInt8.ofNat (i+1)] ++l from rfl,li,qP q];exact g
  ·rintro ⟨l,u,a,rfl⟩
   cases l with
   |nil=>cases a;exact .inl rfl
   |cons c l=>
    simp only[bK] at a;split at a
    ·cases a
    ·cases b:(aS p t)[c.toNat-1]? with
     |none=>rw[b] at a;cases a
     |some k=>
      rw[b] at a;have d:=yh b;have o:=gT d;exact .inr ⟨k,d,(e k (by omega) _).2 ⟨l,u,a,rfl⟩⟩
theorem sa(p:List ah):∀(n:Nat) (t:aj),t.fuel<=n->(aK p t).length<=t.fuel+1:=by
 intro n
 induction n with
 |zero=>
  intro t c
  have a:aS p t= []:=by
   rcases h:aS p t with _|⟨k,l⟩
   ·rfl
   ·have:=gT (p:=p) (t:=t) (k:=k) (by rw[h];simp)
    omega
  rw[fG,a];simp
 |succ n e=>
  intro t c;rw[fG,zo,List.length_flatMap];have d:=Ay p t
  have:((aS p t).map λk=>(aK p k).length).sum<=((aS p t).map λk=>k.fuel+1).sum:=by
   have b:∀k∈aS p t,(aK p k).length<=k.fuel+1:=λk a=>e k (by have:=gT a;omega)
   generalize aS p t=ks at b;clear d
   induction ks with
   |nil=>simp
   |cons k ks g=>
    simp only[zc,zH];have:=b k (by simp);have:=g λk a=>b k (by simp[a])
    omega
  omega
theorem uL(p:List ah):∀(n:Nat) (t:aj),t.fuel<=n->((aK p t).map λx=>x.tk.M).Nodup:=by
 intro n
 induction n with
 |zero=>
  intro t A
  have a:aS p t= []:=by
   rcases h:aS p t with _|⟨k,l⟩
   ·rfl
   ·have:=gT (p:=p) (t:=t) (k:=k) (by rw[h];simp)
    omega
  rw[fG,a];simp
 |succ n D=>
  intro t A;rw[fG,zc,List.nodup_cons]
  have g:∀k∈aS p t,∀y∈(aK p k).map (λx=>x.tk.M),∃l,y=k.M++l:=by
   intro k a y c;obtain⟨x,B,rfl⟩:=yL.1 c;obtain⟨l,u,d,rfl⟩:=(kT k.fuel k (lR) x).1 B;exact⟨l,iN l k u d⟩
  refine⟨?_,?_⟩
  ·intro b
   rw[List.map_flatMap,List.mem_flatMap] at b;obtain⟨k,a,c⟩:=b;obtain⟨l,v⟩:=g k a _ c;obtain⟨i,e⟩:=yF a;rw[(eB e).1] at v;have:=yl List.length v;simp at this
  ·rw[List.map_flatMap,List.Nodup,List.pairwise_flatMap]
   refine⟨λk a=>D k (by have:=gT a;omega),?_⟩;rw[List.pairwise_iff_getElem];intro i j e q E y c z C w;obtain⟨l,rfl⟩:=g _ (yN e) y c;obtain⟨m,b⟩:=g _ (yN q) z C;have d:=eB (gG e);have o:=eB (gG q);rw[<-w,d.1,o.1,yY,yY,List.append_cancel_left_eq] at b;simp only[List.singleton_append,List.cons.injEq] at b;have:=yl UInt8.toNat b.1;rw[gh d.2.1,gh o.2.1] at this;omega
end
open Classical
structure Nm where
 job:Int
 M:List UInt8
def aF(n:Nm)(i:Nat):Nm:=⟨n.job,n.M++ [UInt8.ofNat (i+1)]⟩
def dI(n:Nm):Nm:=⟨n.job,n.M.dropLast⟩
structure aG where
 tk:aj
 sa:Nat
 opn:Int
 res:aD
 fk:Bool
 kn:Nat
 here:Bool
noncomputable def ay{α:Type}(f:Nm->α)(n:Nm)(x:α):Nm->α:=λm=>if m=n then x else f m
theorem aA{α:Type}(f:Nm->α)(n:Nm)(x:α):ay f n x n=x:=by simp[ay]
theorem ag{α:Type}(f:Nm->α){n m:Nm}(x:α)(a:m≠n):ay f n x m=f m:=by simp[ay,a]
structure TS where
 rw:Nm->Option aG
 ks:List Nm
 fm:Nm->Option Fr
 hist:List (Nm×Nat×aD)
 outs:Nm->Prop
abbrev dx:=Int->Option (List ah×aj)
def cI(rows:Nm->Option aG)(n:Nm):Bool:=
 match rows n with
 |none=>false
 |some r=>decide (r.sa≠6)
def dZ(rows:Nm->Option aG)(n:Nm)(kn:Nat):Nat:=((List.range kn).filter λi=>cI rows (aF n i)).length
def jw(p:List ah)(t:aj)(kn:Nat):List aD:=((aS p t).take kn).map (bH p)
structure kw(p:List ah)(r:aG)(f:Fr):Prop where
 M:f.M=r.tk.M
 fn:f.fn=r.tk.fn
 res:f.result=none
 kd:f.kd.length=r.kn
 ok:gF f (jw p r.tk r.kn)
 fin_:gE p f (jw p r.tk r.kn)=(bH p r.tk,(aS p r.tk).drop r.kn)
structure vC(p:List ah)(t:TS)(n:Nm)(r:aG):Prop where
 lo:1<=r.sa/\r.sa<=6
 idle:r.sa=1\/r.sa=5->r.kn=0/\t.fm n=none
 runs:r.sa=2\/r.sa=3\/r.sa=4->∃f,t.fm n=some f/\kw p r f/\(r.sa≠2->f.waits≠none)
 waits:r.sa=3->0<r.opn
 over:r.sa=6->t.fm n=none/\r.res=bH p r.tk/\(r.here=true->r.kn=(aS p r.tk).length)/\(r.here=false->r.kn=0)
 O:t.outs n↔r.sa=5\/(r.sa=6/\r.here=false)
structure E6(G:dx)(t:TS)(n:Nm)(r:aG):Prop where
 node:∃p x,G n.job=some (p,x)/\bK p x n.M=some r.tk/\vC p t n r
 up:(r.fk=false/\n.M= [])\/(r.fk=true/\∃m i q,n=aF m i/\t.rw m=some q/\i<q.kn)
 down:∀i,i<r.kn->t.rw (aF n i)≠none
 opn:r.opn=(dZ t.rw n r.kn:Int)
 kn:r.kn<=16
structure cA(G:dx)(t:TS):Prop where
 nodup:t.ks.Nodup
 ks:∀n,n∈t.ks↔t.rw n≠none
 none_:∀n,t.rw n=none->t.fm n=none
 row:∀n r,t.rw n=some r->E6 G t n r
 hnodup:(t.hist.map (·.1)).Nodup
 hist:∀n k x,(n,k,x)∈t.hist↔∃r,t.rw n=some r/\r.sa=6/\r.here=true/\k=r.kn/\x=r.res
 roots:∀j p x,G j=some (p,x)->x.M= []
section
variable {G:dx}{t t':TS}{n m:Nm}{r:aG}
theorem nh{n m:Nm}{i j:Nat}(q:i<16)(u:j<16)(c:aF n i=aF m j):n=m/\i=j:=by
 obtain⟨a,l⟩:=n;obtain⟨b,k⟩:=m;simp only[aF,Nm.mk.injEq] at c;obtain⟨e,g⟩:=c;have d:=List.append_inj' g rfl;have o:=yl UInt8.toNat (List.cons.inj d.2).1;rw[gh q,gh u] at o;exact⟨by rw[e,d.1],by omega⟩
theorem ip(n:Nm)(i:Nat):aF n i≠n:=by
 intro a;have:=yl (λx:Nm=>x.M.length) a;simp[aF] at this
theorem lB(n:Nm)(i:Nat):dI (aF n i)=n:=by
 obtain⟨a,l⟩:=n;simp[dI,aF]
theorem qh(n:Nm)(i:Nat):(aF n i).job=n.job:=rfl
theorem jc(n:Nm)(i:Nat):(aF n i).M≠[]:=by simp[aF]
theorem gZ{rows rows':Nm->Option aG}{n:Nm}{kn:Nat}(a:∀i,i<kn->cI rows' (aF n i)=cI rows (aF n i)):dZ rows' n kn=dZ rows n kn:=by
 unfold dZ
 congr 1
 apply List.filter_congr;intro i b;exact a i (zw.1 b)
theorem lm{rows:Nm->Option aG}{n:Nm}{kn:Nat}:dZ rows n (kn+1)=dZ rows n kn+(if cI rows (aF n kn)=true then 1 else 0):=by
 unfold dZ;rw[List.range_succ,List.filter_append,yk]
 congr 1
 by_cases a:cI rows (aF n kn)=true<;>simp[a]
theorem qR{rows rows':Nm->Option aG}{n:Nm}:∀{kn i:Nat},i<kn->(∀j,j<kn->j≠i->cI rows' (aF n j)=cI rows (aF n j))->cI rows (aF n i)=true->cI rows' (aF n i)=false->
 dZ rows n kn=dZ rows' n kn+1
 |0,i,d,_,_,_=>by omega
 |kn+1,i,d,a,b,c=>by
  rw[lm,lm]
  by_cases e:i=kn
  ·subst e
   rw[b,c];rw[gZ (rows:=rows) (rows':=rows') λj g=>a j (by omega) (by omega)];simp
  ·have o:=qR (rows:=rows) (rows':=rows') (n:=n) (kn:=kn) (i:=i) (by omega) (λj g l=>a j (by omega) l) b c
   rw[a kn (by omega) (by omega),o];omega
theorem sb{rows:Nm->Option aG}{n:Nm}{kn:Nat}(a:0<dZ rows n kn):∃i,i<kn/\cI rows (aF n i)=true:=by
 unfold dZ at a;obtain⟨i,d⟩:=List.exists_mem_of_length_pos a;obtain⟨b,c⟩:=Yg.1 d;exact⟨i,zw.1 b,c⟩
theorem Cw{p:List ah}{t k:aj}{kn i:Nat}(a:i<kn)(b:(aS p t)[i]?=some k):(jw p t kn)[i]?=some (bH p k):=by
 simp[jw,a,b]
theorem kw.knle{p:List ah}{f:Fr}(a:kw p r f):r.kn<=(aS p r.tk).length:=by
 have:=a.ok.len;rw[a.kd] at this;simp only[jw,zY,ze] at this;omega
theorem cA.child(b:cA G t){i:Nat}(E:t.rw n=some r)(z:i<r.kn):∃p x c k,G n.job=some (p,x)/\t.rw (aF n i)=some c/\(aS p r.tk)[i]?=some k/\c.tk=k/\k.M=(aF n i).M/\c.fk=true:=by
 have e:=b.row n r E;obtain⟨p,x,g,v,F⟩:=e.node;have y:=e.down i z
 cases hc:t.rw (aF n i) with
 |none=>exact absurd hc y
 |some c=>
  have o:=b.row _ c hc;obtain⟨K,L,q,C,H⟩:=o.node;rw[qh,g] at q
  cases q
  obtain⟨u,j,l,d,w⟩:=pM C;rw[v] at l
  cases l
  have B:=(eB d).2.1
  have A:i=j:=by
   have:=yl UInt8.toNat w;rw[gh (by have:=e.kn;omega),gh B] at this;omega
  subst A;have D:=(eB d).1;refine⟨p,x,c,c.tk,g,rfl,d,rfl,?_,?_⟩
  ·rw[D]
   have:=iN _ _ _ v;rw[b.roots _ _ _ g] at this;simp only[List.nil_append] at this;rw[this];rfl
  ·rcases o.up with⟨_,a⟩|⟨a,_⟩
   ·exact absurd a (jc _ _)
   ·exact a
theorem cA.M(a:cA G t)(d:t.rw n=some r):r.tk.M=n.M:=by
 obtain⟨p,x,b,c,_⟩:=(a.row n r d).node;have:=iN _ _ _ c;rw[a.roots _ _ _ b] at this
 simpa using this
theorem cA.parent(b:cA G t)(g:t.rw n=some r)(d:r.fk=true):∃i q,n=aF (dI n) i/\t.rw (dI n)=some q/\i<q.kn/\i<16:=by
 rcases(b.row n r g).up with⟨a,_⟩|⟨_,m,i,q,rfl,c,e⟩
 ·rw[d] at a;cases a
 ·rw[lB]
  exact⟨i,q,rfl,c,e,by have:=(b.row m q c).kn;omega⟩
end
section
variable {G:dx}{t t':TS}{n m:Nm}{r r':aG}
theorem cA.turn(c:cA G t)(o:t.rw n=some r)(S:r'.tk=r.tk)(N:r'.fk=r.fk)(y:r'.kn=r.kn)(P:r'.opn=r.opn)(F:r.sa≠6)(H:r'.sa≠6)
 (E:Option Fr) (L:Prop) (R:∀p x,G n.job=some (p,x)->bK p x n.M=some r.tk->vC p t n r->vC p {t with rw:=ay t.rw n (some r'),fm:=ay t.fm n E,outs:=ay t.outs n L} n r'):
 cA G {t with rw:=ay t.rw n (some r'),fm:=ay t.fm n E,outs:=ay t.outs n L}:=by
 have K:∀m,cI (ay t.rw n (some r')) m=cI t.rw m:=by
  intro m
  by_cases a:m=n
  ·subst a
   simp[cI,aA,o,F,H]
  ·simp only[cI,ag _ _ a]
 have B:∀m,ay t.rw n (some r') m≠none↔t.rw m≠none:=by
  intro m
  by_cases a:m=n
  ·subst a;simp[aA,o]
  ·rw[ag _ _ a]
 refine⟨c.nodup,λm=>by rw[c.ks];exact(B m).symm,λm A=>?_,λm q C=>?_,c.hnodup,λm k x=>?_,c.roots⟩
 ·by_cases a:m=n
  ·subst a;simp[aA] at A
  ·simp only[ag _ _ a] at A ⊢
   exact c.none_ m A
 ·have W:∀i T,m=aF i T->True:=λ_ _ _=>trivial
  by_cases a:m=n
  ·subst a
   simp only[aA,yC] at C;subst C;have b:=c.row m r o;obtain⟨p,x,v,z,d⟩:=b.node;refine⟨⟨p,x,v,by rw[S];exact z,R p x v z d⟩,?_,λi w=>?_,?_,by rw[y];exact b.kn⟩
   ·rw[N]
    rcases b.up with e|⟨e,k,i,q,g,j,u⟩
    ·exact .inl e
    ·refine .inr ⟨e,k,i,q,g,?_,u⟩
     show ay t.rw m (some r') k=some q;rw[ag _ _ (λa=>ip k i (by rw[<-g,a]))];exact j
   ·rw[y] at w
    exact(B _).2 (b.down i w)
   ·show r'.opn=(dZ (ay t.rw m (some r')) m r'.kn:Int)
    rw[P,y,gZ (rows:=t.rw) λi _=>K _];exact b.opn
  ·have Q:t.rw m=some q:=by simpa only[ag _ _ a] using C
   have b:=c.row m q Q;obtain⟨p,x,v,z,d⟩:=b.node;refine⟨⟨p,x,v,z,d.lo,λl=>?_,λl=>?_,d.waits,λl=>?_,?_⟩,?_,λi w=>(B _).2 (b.down i w),?_,b.kn⟩
   ·simp only[ag _ _ a];exact d.idle l
   ·simp only[ag _ _ a];exact d.runs l
   ·simp only[ag _ _ a];exact d.over l
   ·simp only[ag _ _ a];exact d.O
   ·rcases b.up with e|⟨e,k,i,V,g,j,u⟩
    ·exact .inl e
    ·refine .inr ⟨e,k,i,?_⟩
     by_cases D:k=n
     ·subst D
      rw[o] at j
      cases j
      exact⟨r',g,aA _ _ _,by rw[y];exact u⟩
     ·exact⟨V,g,by simp only[ag _ _ D];exact j,u⟩
   ·show q.opn=(dZ (ay t.rw n (some r')) m q.kn:Int)
    rw[gZ (rows:=t.rw) λi _=>K _];exact b.opn
 ·rw[c.hist]
  by_cases a:m=n
  ·subst a
   simp only[aA,o,yC];constructor
   ·rintro ⟨_,rfl,a,_⟩;exact absurd a F
   ·rintro ⟨_,rfl,a,_⟩;exact absurd a H
  ·simp only[ag _ _ a]
theorem jU{α:Type}(f:Nm->α)(n:Nm):ay f n (f n)=f:=by
 funext m
 by_cases a:m=n
 ·subst a;rw[aA]
 ·rw[ag _ _ a]
noncomputable def gQ(p:List ah)(t:TS)(n:Nm)(r:aG):TS:=
 {t with rw:=ay t.rw n (some {r with sa:=2}),fm:=ay t.fm n (some ((t.fm n).getD (Fr.begun p r.tk)))}
theorem cA.begin_(l:cA G t)(q:t.rw n=some r)(a:r.sa=1\/r.sa=4){p:List ah}{x:aj}(o:G n.job=some (p,x)):cA G (gQ p t n r):=by
 have c:gQ p t n r= {t with rw:=ay t.rw n (some {r with sa:=2}),fm:=ay t.fm n (some ((t.fm n).getD (Fr.begun p r.tk))),outs:=ay t.outs n (t.outs n)}:=by
  rw[jU];rfl
 rw[c];refine l.turn (r':={r with sa:=2}) q rfl rfl rfl rfl (by omega) (by simp) _ _ λv w i u g=>?_
 rw[o] at i
 cases i
 refine⟨by simp,λd=>by simp at d,λ_=>?_,λd=>by simp at d,λd=>by simp at d,?_⟩
 ·simp only[aA]
  rcases a with a|a
  ·obtain⟨e,b⟩:=g.idle (.inl a)
   rw[b];refine⟨_,rfl,⟨rfl,rfl,rfl,by simp[Fr.begun,e],?_,?_⟩,λc=>absurd rfl c⟩
   ·simp only[e,jw,List.take_zero,Yk]
    exact gF.begun p r.tk
   ·simp only[e,jw,List.take_zero,Yk,List.drop_zero]
    exact xS p r.tk
  ·obtain⟨f,e,b,_⟩:=g.runs (.inr (.inr a))
   rw[e];exact⟨f,rfl,⟨b.M,b.fn,b.res,b.kd,b.ok,b.fin_⟩,λc=>absurd rfl c⟩
 ·have j:ay t.outs n (t.outs n) n=t.outs n:=aA _ _ _
  show ay t.outs n (t.outs n) n↔_;rw[j,g.O]
  rcases a with a|a<;>simp[a]
noncomputable def iJ(t:TS)(n:Nm)(r:aG)(st:Nat)(f:Fr):TS:=
 {t with rw:=ay t.rw n (some {r with sa:=st}),fm:=ay t.fm n (some f)}
theorem cA.goes(l:cA G t)(v:t.rw n=some r)(e:r.sa=2){st:Nat}(w:st=2\/st=3){f:Fr}(g:st=3->0<r.opn/\f.waits≠none)
 (o:∀p x c,G n.job=some (p,x)->bK p x n.M=some r.tk->t.fm n=some c->kw p r c->kw p r f):cA G (iJ t n r st f):=by
 have i:iJ t n r st f= {t with rw:=ay t.rw n (some {r with sa:=st}),fm:=ay t.fm n (some f),outs:=ay t.outs n (t.outs n)}:=by
  rw[jU];rfl
 rw[i];refine l.turn (r':={r with sa:=st}) v rfl rfl rfl rfl (by omega) (by simp only;omega) _ _ λp x q u d=>?_
 obtain⟨c,y,z,_⟩:=d.runs (.inl e);have b:=o p x c q u y z;refine⟨by simp only;omega,λa=>by simp only at a;omega,λ_=>?_,λa=>(g a).1,λa=>by simp only at a;omega,?_⟩
 ·simp only[aA]
  exact⟨f,rfl,⟨b.M,b.fn,b.res,b.kd,b.ok,b.fin_⟩,λa=>(g (by omega)).2⟩
 ·have j:ay t.outs n (t.outs n) n=t.outs n:=aA _ _ _
  show ay t.outs n (t.outs n) n↔_;rw[j,d.O]
  rcases w with rfl|rfl<;>simp[e]
end
section
variable {G:dx}{t t':TS}{n m:Nm}{r r':aG}
theorem cA.fresh(b:cA G t)(j:t.rw n=some r)(g:r.kn<16):t.rw (aF n r.kn)=none:=by
 cases hc:t.rw (aF n r.kn) with
 |none=>rfl
 |some c=>
  rcases(b.row _ c hc).up with⟨_,d⟩|⟨_,m,i,q,e,a,l⟩
  ·exact absurd d (jc _ _)
  ·have:=(b.row m q a).kn
   obtain⟨rfl,rfl⟩:=nh g (by omega) e;rw[j] at a
   cases a
   omega
noncomputable def bM(t:TS)(n:Nm)(r:aG)(f:Fr)(c:aG):TS:=
 {t with rw:=ay (ay t.rw n (some {r with opn:=r.opn+(if c.sa=6 then 0 else 1),kn:=r.kn+1})) (aF n r.kn) (some c),ks:=t.ks++ [aF n r.kn],fm:=ay t.fm n (some f)}
theorem cA.fork(l:cA G t)(C:t.rw n=some r)(az:r.sa=2){f:Fr}{c:aG}{p:List ah}{x k:aj}(R:G n.job=some (p,x))(a5:(aS p r.tk)[r.kn]?=some k)
 (an:kw p {r with opn:=r.opn+(if c.sa=6 then 0 else 1),kn:=r.kn+1} f) (a3:c.tk=k) (al:c.fk=true) (W:c.kn=0) (am:c.opn=0) (V:c.here=false)
 (e:c.sa=1/\¬t.outs (aF n r.kn)\/c.sa=5/\t.outs (aF n r.kn)\/c.sa=6/\t.outs (aF n r.kn)/\c.res=bH p k):cA G (bM t n r f c):=by
 have S:r.kn<16:=(eB a5).2.1;have N:=l.fresh C S;have aw:n≠aF n r.kn:=λd=>ip n r.kn d.symm
 have E:(bM t n r f c).rw n=some {r with opn:=r.opn+(if c.sa=6 then 0 else 1),kn:=r.kn+1}:=by
  simp only[bM];rw[ag _ _ aw,aA]
 have D:(bM t n r f c).rw (aF n r.kn)=some c:=by simp only[bM];rw[aA]
 have A:∀m,m≠n->m≠aF n r.kn->(bM t n r f c).rw m=t.rw m:=λm g a8=>by simp only[bM];rw[ag _ _ a8,ag _ _ g]
 have ar:(bM t n r f c).fm n=some f:=by simp only[bM];rw[aA]
 have L:∀m,m≠n->(bM t n r f c).fm m=t.fm m:=λm g=>by simp only[bM];rw[ag _ _ g]
 have Y:(bM t n r f c).outs=t.outs:=rfl
 have a6:∀m,m≠aF n r.kn->cI (bM t n r f c).rw m=cI t.rw m:=by
  intro m o
  by_cases d:m=n
  ·subst d
   simp only[cI,E,C]
  ·simp only[cI,A m d o]
 have X:∀m,t.rw m≠none->(bM t n r f c).rw m≠none:=by
  intro m o
  by_cases d:m=n
  ·subst d;rw[E];simp
  ·by_cases j:m=aF n r.kn
   ·subst j;rw[D];simp
   ·rw[A m d j];exact o
 have ab:∀m q,t.rw m=some q->m≠n->dZ (bM t n r f c).rw m q.kn=dZ t.rw m q.kn:=by
  intro m q y o;refine gZ λi P=>a6 _ λd=>?_
  have:=(l.row m q y).kn;exact o (nh (by omega) S d).1
 generalize a7:bM t n r f c=t' at*;have a2:t'.ks=t.ks++ [aF n r.kn]:=by rw[<-a7];rfl
 have a0:t'.hist=t.hist:=by rw[<-a7];rfl
 refine⟨?_,λm=>?_,λm o=>?_,λm q y=>?_,by rw[a0];exact l.hnodup,λm b0 T=>?_,l.roots⟩
 ·rw[a2,zy]
  refine⟨l.nodup,by simp,λa ad b ai d=>?_⟩;rw[yw.1 ai] at d;subst d;exact(l.ks _).1 ad N
 ·rw[a2,yH,yw,l.ks]
  constructor
  ·rintro (g|rfl)
   ·exact X m g
   ·rw[D];simp
  ·intro g
   by_cases j:m=aF n r.kn
   ·exact .inr j
   ·by_cases d:m=n
    ·subst d;rw[C];exact .inl (by simp)
    ·rw[A m d j] at g;exact .inl g
 ·have d:m≠n:=λd=>by subst d;rw[E] at o;cases o
  have j:m≠aF n r.kn:=λd=>by subst d;rw[D] at o;cases o
  rw[A m d j] at o;rw[L m d];exact l.none_ m o
 ·by_cases j:m=aF n r.kn
  ·subst j
   rw[D] at y
   cases y
   obtain⟨Z,T,B,Q,_⟩:=(l.row n r C).node;rw[R] at B
   cases B
   have a4:t'.fm (aF n r.kn)=none:=by rw[L _ (ip _ _)];exact l.none_ _ N
   refine⟨⟨p,x,R,by rw[a3];exact mC Q a5,by omega,λ_=>⟨W,a4⟩,λd=>by omega,λd=>by omega,λd=>⟨a4,?_,λd=>?_,λ_=>W⟩,?_⟩,.inr ⟨al,n,r.kn,_,rfl,E,by simp⟩,λi S=>by omega,?_,by omega⟩
   ·rcases e with e|e|e
    ·omega
    ·omega
    ·rw[e.2.2,a3]
   ·rw[V] at d;cases d
   ·rw[Y]
    rcases e with e|e|e
    ·simp[e.1,e.2]
    ·simp[e.1,e.2]
    ·simp[e.1,e.2.1,V]
   ·rw[am,W];rfl
  ·by_cases d:m=n
   ·subst d
    rw[E] at y
    cases y
    have u:=l.row m r C;obtain⟨Z,T,B,Q,z⟩:=u.node;rw[R] at B
    cases B
    refine⟨⟨p,x,R,Q,z.lo,λd=>by simp only at d;omega,λ_=>⟨f,ar,an,λd=>absurd az d⟩,λd=>by simp only at d;omega,λd=>by simp only at d;omega,by rw[Y];exact z.O⟩,?_,λi P=>?_,?_,by simp only;omega⟩
    ·rcases u.up with F|⟨F,H,i,q,K,v,w⟩
     ·exact .inl F
     ·refine .inr ⟨F,H,i,q,K,?_,w⟩
      rw[A H (λd=>ip H i (by rw[<-K,d])) (λd=>by rw[d,N] at v;cases v)];exact v
    ·simp only at P
     by_cases av:i=r.kn
     ·subst av;rw[D];simp
     ·exact X _ (u.down i (by omega))
    ·simp only
     rw[lm,u.opn,gZ (rows:=t.rw) λi P=>a6 _ λd=>by have:=(nh (by omega) S d).2;omega];have:cI t'.rw (aF m r.kn)=decide (c.sa≠6):=by simp only[cI,D]
     rw[this]
     by_cases a9:c.sa=6<;>simp[a9]
   ·rw[A m d j] at y
    have u:=l.row m q y;obtain⟨Z,T,B,Q,z⟩:=u.node;refine⟨⟨Z,T,B,Q,z.lo,λg=>by rw[L m d];exact z.idle g,λg=>by rw[L m d];exact z.runs g,z.waits,λg=>by rw[L m d];exact z.over g,by rw[Y];exact z.O⟩,?_,λi P=>X _ (u.down i P),by rw[ab m q y d];exact u.opn,u.kn⟩
    rcases u.up with F|⟨F,H,i,aE,K,v,w⟩
    ·exact .inl F
    ·refine .inr ⟨F,H,i,?_⟩
     by_cases a1:H=n
     ·subst a1
      rw[C] at v
      cases v
      exact⟨_,K,E,by simp only;omega⟩
     ·exact⟨aE,K,by rw[A H a1 (λd=>by rw[d,N] at v;cases v)];exact v,w⟩
 ·rw[a0,l.hist]
  by_cases j:m=aF n r.kn
  ·subst j
   rw[N,D];constructor
   ·rintro ⟨_,d,_⟩;cases d
   ·rintro ⟨_,d,_,w,_⟩;cases d;rw[V] at w;cases w
  ·by_cases d:m=n
   ·subst d
    rw[C,E];constructor
    ·rintro ⟨_,d,w,_⟩;cases d;omega
    ·rintro ⟨_,d,w,_⟩;cases d;simp only at w;omega
   ·rw[A m d j]
noncomputable def fc(q:aG):aG:={q with opn:=q.opn-1,sa:=if q.sa=3/\q.opn-1=0 then 4 else q.sa}
noncomputable def bE(t:TS)(n:Nm)(r:aG)(x:aD)(here:Bool):TS:=
 {t with
  rw:=match r.fk,t.rw (dI n) with
   |true,some q=>ay (ay t.rw n (some {r with sa:=6,res:=x,here:=here})) (dI n) (some (fc q))
   |_,_=>ay t.rw n (some {r with sa:=6,res:=x,here:=here}),
  fm:=ay t.fm n none,
  hist:=if here then t.hist++ [(n,r.kn,x)] else t.hist}
theorem cA.over(u:cA G t)(w:t.rw n=some r){x:aD}{here:Bool}{p:List ah}{y:aj}(aE:G n.job=some (p,y))(br:x=bH p r.tk)(D:here=true/\r.sa=2/\r.kn=(aS p r.tk).length\/here=false/\r.sa=5):
 cA G (bE t n r x here):=by
 have Q:=u.row n r w;obtain⟨bx,bz,b0,bb,b3⟩:=Q.node;rw[aE] at b0
 cases b0
 have a5:r.sa≠6:=by omega
 obtain⟨a9,E⟩:=eX ({r with sa:=6,res:=x,here:=here}:aG)
 have K:(bE t n r x here).rw n=some a9:=by
  simp only[bE]
  cases g:r.fk with
  |false=>simp only[aA,E,g]
  |true=>
   obtain⟨i,q',v,e,A,N⟩:=u.parent w g;simp only[e];rw[ag _ _ (λc=>ip (dI n) i (by rw[<-v,<-c])),aA,E,g]
 have Y:∀m,m≠n->(r.fk=true->m≠dI n)->(bE t n r x here).rw m=t.rw m:=by
  intro m d o;simp only[bE]
  cases g:r.fk with
  |false=>simp only[ag _ _ d]
  |true=>
   obtain⟨i,q',v,e,A,N⟩:=u.parent w g;simp only[e];rw[ag _ _ (o g),ag _ _ d]
 have a0:∀q,r.fk=true->t.rw (dI n)=some q->(bE t n r x here).rw (dI n)=some (fc q):=by
  intro q g F;simp only[bE,g,F,aA]
 have ba:(bE t n r x here).fm n=none:=by simp only[bE,aA]
 have T:∀m,m≠n->(bE t n r x here).fm m=t.fm m:=λm d=>by simp only[bE];rw[ag _ _ d]
 have a4:(bE t n r x here).outs=t.outs:=rfl;have an:(bE t n r x here).ks=t.ks:=rfl;have ad:(bE t n r x here).hist=if here then t.hist++ [(n,r.kn,x)] else t.hist:=rfl
 generalize bE t n r x here=t' at*
 have a7:∀q:aG,(fc q).sa=6↔q.sa=6:=by
  intro q;simp only[fc];split
  ·omega
  ·rfl
 have b2:∀m,m≠n->cI t'.rw m=cI t.rw m:=by
  intro m L
  by_cases c:r.fk=true/\m=dI n
  ·obtain⟨i,q,v,e,A,N⟩:=u.parent w c.1
   rw[c.2];simp only[cI,a0 q c.1 e,e];simp[a7]
  ·simp only[cI,Y m L (λg H=>c ⟨g,H⟩)]
 have bk:cI t'.rw n=false:=by simp[cI,K,E]
 have bn:cI t.rw n=true:=by simp[cI,w,a5]
 have X:∀m,t'.rw m≠none↔t.rw m≠none:=by
  intro m
  by_cases c:m=n
  ·subst c;rw[K,w];simp
  ·by_cases e:r.fk=true/\m=dI n
   ·obtain⟨i,q,v,ab,A,N⟩:=u.parent w e.1
    rw[e.2,a0 q e.1 ab,ab];simp
   ·rw[Y m c (λg H=>e ⟨g,H⟩)]
 have av:∀m q,t.rw m=some q->(∀i,i<q.kn->aF m i≠n)->dZ t'.rw m q.kn=dZ t.rw m q.kn:=λm q F L=>gZ λi R=>b2 _ (L i R)
 have a6:∀(m:Nm) (q':aG),(q'.fk=false/\m.M= [])\/(q'.fk=true/\∃k i q,m=aF k i/\t.rw k=some q/\i<q.kn)->(q'.fk=false/\m.M= [])\/(q'.fk=true/\∃k i q,m=aF k i/\t'.rw k=some q/\i<q.kn):=by
  intro m q' Z
  rcases Z with Z|⟨Z,k,i,q,v,e,A⟩
  ·exact .inl Z
  ·refine .inr ⟨Z,k,i,?_⟩
   by_cases al:k=n
   ·subst al
    rw[w] at e
    cases e
    exact⟨a9,v,K,by rw[E];exact A⟩
   ·by_cases am:r.fk=true/\k=dI n
    ·obtain⟨g,rfl⟩:=am
     exact⟨_,v,a0 q g e,A⟩
    ·exact⟨q,v,by rw[Y k al (λg H=>am ⟨g,H⟩)];exact e,A⟩
 refine⟨by rw[an];exact u.nodup,λm=>by rw[an,u.ks];exact(X m).symm,λm L=>?_,λm q F=>?_,?_,λm b4 S=>?_,u.roots⟩
 ·have c:m≠n:=λc=>by subst c;rw[K] at L;cases L
  rw[T m c];refine u.none_ m ?_
  by_cases W:t.rw m=none
  ·exact W
  ·exact absurd L ((X m).2 W)
 ·by_cases c:m=n
  ·subst c
   rw[K] at F
   cases F
   subst E;refine⟨⟨p,y,aE,bb,by simp,λc=>by simp at c,λc=>by simp at c,λc=>by simp at c,λ_=>⟨ba,br,λc=>?_,λc=>?_⟩,?_⟩,a6 m _ Q.up,λi R=>(X _).2 (Q.down i R),?_,Q.kn⟩
   ·rcases D with D|D
    ·exact D.2.2
    ·rw[D.1] at c;cases c
   ·rcases D with D|D
    ·rw[D.1] at c;cases c
    ·exact(b3.idle (.inr D.2)).1
   ·rw[a4,b3.O]
    rcases D with⟨rfl,o,_⟩|⟨rfl,o⟩<;>simp[o]
   ·simp only
    rw[av m r w λi _=>ip m i];exact Q.opn
  ·by_cases e:r.fk=true/\m=dI n
   ·obtain⟨g,rfl⟩:=e
    obtain⟨i,l,v,e,A,N⟩:=u.parent w g;rw[a0 l g e] at F
    cases F
    have B:=u.row _ l e;obtain⟨a8,S,a2,a3,z⟩:=B.node
    have bm:dZ t.rw (dI n) l.kn=dZ t'.rw (dI n) l.kn+1:=by
     refine qR A (λj b1 bf=>b2 _ λc=>bf ?_) (by rw[<-v];exact bn) (by rw[<-v];exact bk);rw[v] at c;rw[lB] at c;exact(nh (by have:=B.kn;omega) N c).2
    have bo:l.opn-1=(dZ t'.rw (dI n) l.kn:Int):=by rw[B.opn,bm];omega
    have bq:l.sa=3->0<l.opn:=z.waits
    have bp:(fc l).sa=4/\l.sa=3/\l.opn-1=0\/(fc l).sa=l.sa/\¬(l.sa=3/\l.opn-1=0):=by
     simp only[fc];split
     ·exact .inl ⟨rfl,by assumption⟩
     ·exact .inr ⟨rfl,by assumption⟩
    have a1:t'.fm (dI n)=t.fm (dI n):=T _ c;refine⟨⟨a8,S,a2,a3,?_,λd=>?_,λd=>?_,λd=>?_,λd=>?_,?_⟩,a6 _ _ B.up,λj b1=>(X _).2 (B.down j b1),bo,B.kn⟩
    ·have:=z.lo;omega
    ·rw[a1];exact z.idle (by omega)
    ·rw[a1]
     obtain⟨f,b6,P,b7⟩:=z.runs (by omega);exact⟨f,b6,⟨P.M,P.fn,P.res,P.kd,P.ok,P.fin_⟩,λo=>b7 (by omega)⟩
    ·have C:l.sa=3:=by omega
     have:l.opn-1≠0:=by omega
     have:=bq C;show 0<l.opn-1;omega
    ·rw[a1];exact z.over (by omega)
    ·rw[a4,z.O]
     show _↔(fc l).sa=5\/(fc l).sa=6/\l.here=false
     rcases bp with⟨d,o,_⟩|⟨d,_⟩
     ·rw[d,o];simp
     ·rw[d]
   ·have W:r.fk=true->m≠dI n:=λg H=>e ⟨g,H⟩
    rw[Y m c W] at F;have B:=u.row m q F;obtain⟨a8,S,a2,a3,z⟩:=B.node;refine⟨⟨a8,S,a2,a3,z.lo,λd=>by rw[T m c];exact z.idle d,λd=>by rw[T m c];exact z.runs d,z.waits,λd=>by rw[T m c];exact z.over d,by rw[a4];exact z.O⟩,a6 m q B.up,λi R=>(X _).2 (B.down i R),?_,B.kn⟩;rw[av m q F λi R ai=>?_]
    ·exact B.opn
    ·have g:r.fk=true:=by
      rcases Q.up with⟨_,c⟩|⟨c,_⟩
      ·rw[<-ai] at c;exact absurd c (jc _ _)
      ·exact c
     exact W g (by rw[<-ai,lB])
 ·rw[ad]
  split
  ·rename_i V
   rw[yS,zy];refine⟨u.hnodup,by simp,λa b8 b az c=>?_⟩;simp only[zc,Yk,yw] at az;obtain⟨⟨b5,bt,bv⟩,b9,aw⟩:=yL.1 b8;simp only at aw;have A:b5=n:=by rw[aw,c,az]
   subst A;obtain⟨r',d,o,_⟩:=(u.hist _ _ _).1 b9;rw[w] at d
   cases d
   exact a5 o
  ·exact u.hnodup
 ·have cD:(m,b4,S)∈t.hist↔m≠n/\∃r',t'.rw m=some r'/\r'.sa=6/\r'.here=true/\b4=r'.kn/\S=r'.res:=by
   rw[u.hist]
   by_cases c:m=n
   ·subst c
    constructor
    ·rintro ⟨r',d,o,_⟩
     rw[w] at d;cases d;exact absurd o a5
    ·rintro ⟨c,_⟩;exact absurd rfl c
   ·by_cases e:r.fk=true/\m=dI n
    ·obtain⟨g,rfl⟩:=e
     obtain⟨i,l,v,e,A,N⟩:=u.parent w g;rw[a0 l g e,e];constructor
     ·rintro ⟨_,d,o,C⟩;cases d;exact⟨c,_,rfl,(a7 _).2 o,C⟩
     ·rintro ⟨_,_,d,o,C⟩;cases d;exact⟨_,rfl,(a7 _).1 o,C⟩
    ·rw[Y m c (λg H=>e ⟨g,H⟩)]
     exact⟨λd=>⟨c,d⟩,λd=>d.2⟩
  rw[ad]
  by_cases V:here=true
  ·rw[yf V,yH,cD,yw]
   constructor
   ·rintro (⟨_,d⟩|d)
    ·exact d
    ·simp only[yP] at d
     obtain⟨rfl,rfl,rfl⟩:=d;exact⟨a9,K,by rw[E],by rw[E];exact V,by rw[E],by rw[E]⟩
   ·rintro d
    by_cases c:m=n
    ·subst c
     obtain⟨r',o,_,_,C,ar⟩:=d;rw[K] at o
     cases o
     rw[E] at C ar;exact .inr (by rw[C,ar])
    ·exact .inl ⟨c,d⟩
  ·rw[yb V,cD]
   constructor
   ·rintro ⟨_,d⟩;exact d
   ·intro d
    refine⟨λc=>?_,d⟩;subst c;obtain⟨r',o,_,C,_⟩:=d;rw[K] at o
    cases o
    rw[E] at C;exact V C
end
theorem uq{α:Type}{P:List α->Prop}(b:P [])(d:∀l c,P l->P (l++ [c]))(l:List α):P l:=by
 have key:∀(n:Nat) (l:List α),l.length=n->P l:=by
  intro n
  induction n with
  |zero=>intro l a;rw[yr a];exact b
  |succ n e=>
   intro l a
   rcases List.eq_nil_or_concat l with rfl|⟨l',c,rfl⟩
   ·simp at a
   ·rw[List.concat_eq_append]
    exact d l' c (e l' (by simpa using a))
 exact key _ l rfl
section
variable {G:dx}{t t':TS}{n m:Nm}{r r':aG}
theorem cA.waits_away(b:cA G t)(q:∀n r,t.rw n=some r->r.sa=3\/r.sa=5\/r.sa=6)(o:∀n r,t.rw n=some r->r.sa≠5):∀n r,t.rw n=some r->r.sa=6:=by
 have key:∀(k:Nat) n r,t.rw n=some r->13<=n.M.length+k->r.sa≠3:=by
  intro k
  induction k with
  |zero=>
   intro n r a E e;obtain⟨p,x,D,F,j⟩:=(b.row n r a).node;have H:=(b.row n r a).opn;have K:=j.waits e;obtain⟨i,g,_⟩:=sb (rows:=t.rw) (n:=n) (kn:=r.kn) (by omega);obtain⟨N,P,c,k,v,d,l,w,y,z⟩:=b.child a g;have:=(eB l).2.2;rw[b.M a] at this;omega
  |succ k L=>
   intro n r a E e;obtain⟨p,x,D,F,j⟩:=(b.row n r a).node;have H:=(b.row n r a).opn;have K:=j.waits e;obtain⟨i,g,u⟩:=sb (rows:=t.rw) (n:=n) (kn:=r.kn) (by omega);obtain⟨N,P,c,Q,v,d,l,w,y,z⟩:=b.child a g;have A:=L (aF n i) c d (by simp[aF];omega);have B:=o _ c d;have C:=q _ c d;simp only[cI,d] at u;simp at u;omega
 intro n r a;have A:=key 13 n r a (by omega);have B:=o n r a;have C:=q n r a;omega
theorem cA.row_up(o:cA G t):∀(k:List UInt8) (j:Int) (l:List UInt8),t.rw ⟨j,l++k⟩≠none->t.rw ⟨j,l⟩≠none:=by
 refine uq ?_ ?_
 ·intro j l a;simpa using a
 ·intro k c u j l a
  refine u j l ?_;rw[<-yY] at a
  cases hr:t.rw ⟨j,l++k++ [c]⟩ with
  |none=>exact absurd hr a
  |some r=>
   rcases(o.row _ r hr).up with⟨_,d⟩|⟨_,m,i,q,e,g,v⟩
   ·simp at d
   ·have:m=⟨j,l++k⟩:=by
     have b:=yl dI e;rw[lB] at b;rw[<-b];simp[dI]
    subst this;rw[g];simp
theorem cA.done_iff(g:cA G t)(F:∀n r,t.rw n=some r->r.sa=6){j:Int}{p:List ah}{x:aj}(X:G j=some (p,x))(a4:t.rw ⟨j,[]⟩≠none):
 ∀(l:List UInt8) (u:aj),bK p x l=some u->((∃r,t.rw ⟨j,l⟩=some r/\r.here=true)↔∀q k,l=q++k->¬t.outs ⟨j,q⟩):=by
 have B:∀l r,t.rw ⟨j,l⟩=some r->(t.outs ⟨j,l⟩↔r.here=false):=by
  intro l r d;obtain⟨Q,R,o,A,y⟩:=(g.row _ r d).node;rw[y.O];have:=F _ r d;simp[this]
 refine uq ?_ ?_
 ·intro u P
  cases d:t.rw ⟨j,[]⟩ with
  |none=>exact absurd d a4
  |some r=>
   constructor
   ·rintro ⟨r',E,w⟩ q k e
    cases E
    have a2:q= []:=by
     rcases q with _|⟨a,b⟩
     ·rfl
     ·simp at e
    subst a2;rw[B _ _ d,w];simp
   ·intro z
    have:=z [] [] rfl;rw[B _ _ d] at this;exact⟨r,rfl,by simpa using this⟩
 ·intro l c C u P
  obtain⟨v,i,L,T,rfl⟩:=pM P;have C:=C v L;constructor
  ·rintro ⟨r,d,w⟩ q k e
   have a3:t.rw ⟨j,l⟩≠none:=g.row_up [UInt8.ofNat (i+1)] j l (by rw[d];simp)
   cases hr2:t.rw ⟨j,l⟩ with
   |none=>exact absurd hr2 a3
   |some D=>
    have Y:D.here=true:=by
     cases hb:D.here with
     |true=>rfl
     |false=>
      exfalso;obtain⟨Q,R,o,A,y⟩:=(g.row _ D hr2).node;have a7:=(y.over (F _ _ hr2)).2.2.2 hb
      rcases(g.row _ r d).up with⟨_,E⟩|⟨_,m,a8,q',S,H,a6⟩
      ·simp at E
      ·have:m=⟨j,l⟩:=by
        have K:=yl dI S;rw[lB] at K;rw[<-K];simp[dI]
       subst this;rw[hr2] at H
       cases H
       omega
    have a1:=C.1 ⟨D,hr2,Y⟩
    rcases List.eq_nil_or_concat k with rfl|⟨a5,c',rfl⟩
    ·rw[zA] at e
     subst e;rw[B _ _ d,w];simp
    ·rw[List.concat_eq_append,<-yY] at e
     exact a1 q a5 (List.append_inj' e rfl).1
  ·intro z
   have V:∃r,t.rw ⟨j,l⟩=some r/\r.here=true:=C.2 λq k e=>z q (k++ [UInt8.ofNat (i+1)]) (by rw[e,yY])
   obtain⟨r,d,w⟩:=V;obtain⟨Q,R,o,A,y⟩:=(g.row _ r d).node;simp only at o;rw[X] at o
   cases o
   rw[L] at A
   cases A
   have a0:=(y.over (F _ _ d)).2.2.1 w;have Z:i<r.kn:=by rw[a0];exact(gS T).1
   have W:=(g.row _ r d).down i Z
   cases hc:t.rw (aF ⟨j,l⟩ i) with
   |none=>exact absurd hc W
   |some c=>
    have N:t.rw ⟨j,l++ [UInt8.ofNat (i+1)]⟩=some c:=hc;refine⟨c,N,?_⟩;have:=z _ [] (by rw[zA]);rw[B _ _ N] at this
    simpa using this
theorem cA.hist_node(a:cA G t){j:Int}{p:List ah}{x:aj}(g:G j=some (p,x)){l:List UInt8}{k:Nat}{y:aD}(e:((⟨j,l⟩ :Nm),k,y)∈t.hist):
 ∃u,bK p x l=some u/\u.M=l/\k=(aS p u).length/\y=bH p u:=by
 obtain⟨r,c,d,i,rfl,rfl⟩:=(a.hist _ _ _).1 e;obtain⟨v,w,b,o,q⟩:=(a.row _ r c).node;simp only at b;rw[g] at b
 cases b
 have:=q.over d;exact⟨r.tk,o,a.M c,this.2.2.1 i,this.2.1⟩
end
structure Th where
 act:Option (Nat×Nat)
 kn:Nat
 cur:Nm
 run:Bool
def gU:Nm:=⟨0,[]⟩
structure PS where
 T:TS
 ths:List Th
 C:List Int
 ds:List aT
 queue:List Nm
 nms:List Nm
 roots:Nm->Option Int
 known:Nm->Option aD
 away:Nm->Bool
 progs:Int->Option (List ah)
def PS.prog(s:PS)(j:Int):List ah:=(s.progs j).getD []
def Fi:aT:=⟨0,[],[],none,[],0,0,0⟩
def mN:Th:=⟨none,0,gU,false⟩
def PS.dq(s:PS)(k:Nat):aT:=s.ds.getD k Fi
def PS.th(s:PS)(k:Nat):Th:=s.ths.getD k mN
def PS.setTh(s:PS)(k:Nat)(th:Th):PS:={s with ths:=s.ths.set k th}
def PS.inL(s:PS)(n:Nm):Prop:=∃(k:Nat) (x:aT) (v:Int),s.ds[k]?=some x/\v∈x.L/\s.nms[v.toNat]?=some n
structure Ey(s:PS)(k:Nat)(th:Th):Prop where
 run:th.run=true->∃r,s.T.rw th.cur=some r/\r.sa=2
 free:th.act=none->own (s.dq k).acts (s.dq k).on=none
 act:∀j i,th.act=some (j,i)->∃(x:aT) (a:aC),s.ds[j]?=some x/\x.acts[i]?=some a/\a.td=0/\
  (th.kn=1/\j=k/\a.kn=0\/th.kn=2/\j=k/\a.kn=1/\th.run=false\/
   th.kn=3/\j≠k/\a.kn=2/\th.run=false/\(s.dq k).L= []/\own (s.dq k).acts (s.dq k).on=none)
structure aH(G:dx)(s:PS)(ex:Nm->Prop):Prop where
 t:cA G s.T
 progs:∀j p x,G j=some (p,x)->s.progs j=some p
 many:fC s.C s.ds
 kinds:∀x∈s.ds,∀a∈x.acts,a.kn<=2
 nlen:s.ds.length=s.ths.length
 vals:∀x∈s.ds,∀v∈x.L,0<=v/\v<s.nms.length
 nnodup:s.nms.Nodup
 th:∀(k:Nat) (th:Th),s.ths[k]?=some th->Ey s k th
 one:∀(k l:Nat) (th tl:Th),k≠l->s.ths[k]?=some th->s.ths[l]?=some tl->th.run=true->tl.run=true->th.cur≠tl.cur
 acts:∀(k l:Nat) (th tl:Th) (y:Nat×Nat),k≠l->s.ths[k]?=some th->s.ths[l]?=some tl->th.act=some y->tl.act≠some y
 ready:∀n r,s.T.rw n=some r->r.sa=1->¬ex n->n∈s.queue\/(s.roots n=none/\s.inL n)
 wakes:∀n r,s.T.rw n=some r->r.sa=4->¬ex n->n∈s.queue\/s.inL n
 runs:∀n r,s.T.rw n=some r->r.sa=2->∃(k:Nat) (th:Th),s.ths[k]?=some th/\th.run=true/\th.cur=n
 outN:∀m,s.T.rw m=none->(s.T.outs m↔s.known m≠none\/s.away m=true)
 known:∀m y p x u,s.known m=some y->G m.job=some (p,x)->bK p x m.M=some u->y=bH p u
 roots:∀n,s.roots n≠none->n.M= []
noncomputable def dX(s:PS)(k:Nat)(n:Nm):PS:=
 match s.T.rw n with
 |none=>s
 |some r=>if r.sa=1\/r.sa=4 then {s with T:=gQ (s.prog n.job) s.T n r,ths:=s.ths.set k {s.th k with cur:=n,run:=true}} else s
noncomputable def eM(nms:List Nm)(n:Nm):Nat×List Nm:=
 if h:∃v:Nat,nms[v]?=some n then(Classical.choose h,nms) else(nms.length,nms++ [n])
noncomputable def eN(x:aT)(v:Int):aT:={x with acts:=x.acts++ [cQ 0 v],on:=some x.acts.length,L:=x.L++ [v],P:=x.P+1}
noncomputable def eE(s:PS)(k:Nat)(n:Nm):PS:=
 {s with nms:=(eM s.nms n).2,ds:=s.ds.set k (eN (s.dq k) ((eM s.nms n).1:Int)),ths:=s.ths.set k {s.th k with act:=some (k,(s.dq k).acts.length),kn:=1}}
def nB(x:aT):aT:={x with acts:=x.acts++ [cQ 1 0],on:=some x.acts.length}
def ly(x:aT):aT:={x with acts:=x.acts++ [cQ 2 0]}
noncomputable def mc(s:PS)(k:Nat):PS:=
 {s with ds:=s.ds.set k (nB (s.dq k)),ths:=s.ths.set k {s.th k with act:=some (k,(s.dq k).acts.length),kn:=2}}
noncomputable def jk(s:PS)(k j:Nat):PS:=
 {s with ds:=s.ds.set j (ly (s.dq j)),ths:=s.ths.set k {s.th k with act:=some (j,(s.dq j).acts.length),kn:=3}}
structure oP(s:PS)(j i:Nat)(x:aT)(a:aC)(s1:PS):Prop where
 hx:s.ds[j]?=some x
 ha:x.acts[i]?=some a
 ex:∃L' ws',s1= {s with C:=(pstep x.d s.C a).C,ds:=s.ds.set j ⟨x.d,ws',x.acts.set i (pstep x.d s.C a).a,x.on,L',x.own+(((pstep x.d s.C a).C.length:Int)-s.C.length),x.P,x.c0⟩}/\
  fC s1.C s1.ds/\mQ a (pstep x.d s.C a) x.L L'/\(pstep x.d s.C a).a.kn=a.kn
noncomputable def i9(s:PS)(k:Nat)(draw:Nat)(what:Nat)(val:Int):PS:=
 let s2:=s.setTh k {s.th k with act:=none,kn:=0}
 if what=1 then s2
 else if what=2 then dX s2 k (s.nms.getD val.toNat gU)
 else if (s.th k).kn=2/\s.queue≠[] then dX {s2 with queue:=s.queue.tail} k (s.queue.headD gU)
 else if (s.th k).kn=2/\1<s.ths.length then jk s2 k ((k+(1+draw % (s.ths.length-1))) % s.ths.length)
 else s2
def kN(rows:Nm->Option aG)(m:Nm):aD:=
 match rows m with
 |some c=>c.res
 |none=>⟨0,0⟩
def bR(rows:Nm->Option aG)(n:Nm):List Nat->Fr->Fr
 | [],f=>f
 |i :: l,f=>bR rows n l (f.give i (kN rows (aF n i)))
noncomputable def iU(s:PS)(k:Nat)(n:Nm)(r:aG)(f:Fr)(t:aj):PS:=
 match s.known (aF n r.kn) with
 |some y=>{s with T:=bM s.T n r f ⟨t,6,0,y,true,0,false⟩}
 |none=>
  if s.away (aF n r.kn)=true then {s with T:=bM s.T n r f ⟨t,5,0,⟨0,0⟩,true,0,false⟩}
  else eE {s with T:=bM s.T n r f ⟨t,1,0,⟨0,0⟩,true,0,false⟩} k (aF n r.kn)
noncomputable def fz(t:TS)(n:Nm)(r:aG):Bool:=
 match r.fk,t.rw (dI n) with
 |true,some q=>decide (q.sa=3/\q.opn-1=0)
 |_,_=>false
noncomputable def eW(s:PS)(k:Nat):PS:=
 match s.T.rw (s.th k).cur,s.T.fm (s.th k).cur with
 |some r,some f=>
  let n:=(s.th k).cur
  match (f.run1 (s.prog n.job)).2 with
  | .more=>{s with T:=iJ s.T n r 2 (f.run1 (s.prog n.job)).1}
  | .fork t=>iU s k n r (f.run1 (s.prog n.job)).1 t
  | .join=>
    if r.opn≠0 then {s with T:=iJ s.T n r 3 (f.run1 (s.prog n.job)).1,ths:=s.ths.set k {s.th k with cur:=gU,run:=false}}
    else {s with T:=iJ s.T n r 2 (bR s.T.rw n (f.run1 (s.prog n.job)).1.waitsOf (f.run1 (s.prog n.job)).1)}
  | .done x=>
    let s2:PS:={s with T:=bE s.T n r x true,ths:=s.ths.set k {s.th k with cur:=gU,run:=false}}
    if fz s.T n r=true then eE s2 k (dI n) else s2
 |_,_=>s
def dO(s:PS)(k:Nat)(draw:Nat)(s':PS):Prop:=
 match (s.th k).act with
 |some (j,i)=>∃x a s1,oP s j i x a s1/\(if (pstep x.d s.C a).what=0 then s'=s1 else s'=i9 s1 k draw (pstep x.d s.C a).what (pstep x.d s.C a).val)
 |none=>if (s.th k).run=true then s'=eW s k else s'=mc s k
section
variable {G:dx}{s s':PS}{ex:Nm->Prop}{k:Nat}
theorem kR{α:Type}{l:List α}{i:Nat}{x d:α}(a:l[i]?=some x):l.getD i d=x:=by simp[yc,a]
theorem fH{α:Type}{l:List α}{i:Nat}{d:α}(a:i<l.length):l[i]?=some (l.getD i d):=by simp[yc,a]
theorem dG{α:Type}{l:List α}{i j:Nat}{x y:α}(a:(l.set i x)[j]?=some y):(j=i/\y=x)\/(j≠i/\l[j]?=some y):=by
 rw[zg] at a;split at a
 ·rename_i b
  split at a
  ·cases a;exact .inl ⟨b.symm,rfl⟩
  ·cases a
 ·rename_i b
  exact .inr ⟨λc=>b c.symm,a⟩
theorem bD{α:Type}{l:List α}{i:Nat}{x:α}(a:i<l.length):(l.set i x)[i]?=some x:=by simp[a]
theorem dF{α:Type}{l:List α}{i j:Nat}{x:α}(b:j≠i):(l.set i x)[j]?=l[j]?:=by
 rw[zg,yb (λa=>b a.symm)]
theorem mK{α:Type}{l:List α}{i:Nat}{x y:α}(b:y∈l.set i x):y=x\/y∈l:=by
 obtain⟨j,c⟩:=yF b
 rcases dG c with⟨_,a⟩|⟨_,a⟩
 ·exact .inl a
 ·exact .inr (yh a)
theorem wm(nms:List Nm)(n:Nm):(eM nms n).2[(eM nms n).1]?=some n/\(∀(v:Nat) (m:Nm),nms[v]?=some m->(eM nms n).2[v]?=some m)/\nms.length<=(eM nms n).2.length/\(eM nms n).2.length<=nms.length+1/\(nms.Nodup->(eM nms n).2.Nodup):=by
 unfold eM;split
 ·rename_i d
  exact⟨Classical.choose_spec d,λv m c=>c,lR,yX _,λd=>d⟩
 ·rename_i d
  refine⟨by simp,λv m c=>?_,by simp,by simp,λi=>?_⟩
  ·rw[yi (gS c).1]
   exact c
  ·rw[zy]
   refine⟨i,by simp,λa e b g c=>?_⟩;rw[yw.1 g] at c;subst c;obtain⟨v,hv⟩:=yF e;exact d ⟨v,hv⟩
end
end
end Go.Proofs.YtmdocplknceilaaGreat
