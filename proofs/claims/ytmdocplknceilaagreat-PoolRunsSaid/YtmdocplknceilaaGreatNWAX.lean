import Derived.Test.YtmdocplknceilaaGreatNWAW
set_option linter.all false
set_option maxRecDepth 100000
set_option maxHeartbeats 1000000
namespace Go.Proofs.YtmdocplknceilaaGreat
section
open Go.RowKit Go.Maps
def dy(w:World)(F:Nat->Prop)(A:Option Addr)(ops:List bI):Prop:=
 (A=none/\ops= [])\/∃b o,A=some ⟨b,o,none⟩/\∀(k:Nat) (x:bI),ops[k]?=some x->F b/\(∃zs,ae w b 106 zs)/\∀(j:Nat) (v:Value),(eJ x)[j]?=some v->w.cell? ⟨b,o+k*5+j,none⟩=some v
def dg(w:World)(F:Nat->Prop)(A:Option Addr)(p:List ah):Prop:=
 (A=none/\p= [])\/∃b o,A=some ⟨b,o,none⟩/\∀(i:Nat) (x:ah),p[i]?=some x->F b/\(∃zs,ae w b 99 zs)/\w.cell? ⟨b,o+i*3,none⟩=some (.int .i64 x.args)/\w.cell? ⟨b,o+i*3+1,none⟩=some (.int .i64 x.rg)/\
  ∃B c,w.cell? ⟨b,o+i*3+2,none⟩=some (.slice B x.ops.length c)/\dy w F B x.ops
section
variable {w w':World}{F F':Nat->Prop}{A:Option Addr}{ops:List bI}{p:List ah}
theorem dy.mo(a:dy w F A ops)(g:∀b,F b->F' b):dy w F' A ops:=by
 rcases a with a|⟨b,o,e,c⟩
 ·exact .inl a
 ·exact .inr ⟨b,o,e,λk x d=>⟨g _ (c k x d).1,(c k x d).2⟩⟩
theorem dy.kp{S:Nat->Prop}(d:dy w F A ops)(g:aa S w w')(e:∀b,F b->¬S b):dy w' F A ops:=by
 rcases d with d|⟨b,o,i,a⟩
 ·exact .inl d
 ·refine .inr ⟨b,o,i,λk x c=>⟨(a k x c).1,(a k x c).2.1.imp λn m=>g.J m (e b (a k x c).1),λj v l=>?_⟩⟩
  have:=(a k x c).2.2 j v l;exact(g.I (p:=⟨b,o+k*5+j,none⟩) (block_lt_of_cell this) (e b (a k x c).1)).trans this
theorem dg.mo(a:dg w F A p)(d:∀b,F b->F' b):dg w F' A p:=by
 rcases a with a|⟨b,o,e,g⟩
 ·exact .inl a
 ·refine .inr ⟨b,o,e,λi x j=>?_⟩
  obtain⟨l,k,m,n,B,c,q,r⟩:=g i x j;exact⟨d _ l,k,m,n,B,c,q,r.mo d⟩
theorem dg.kp{S:Nat->Prop}(d:dg w F A p)(g:aa S w w')(e:∀b,F b->¬S b):dg w' F A p:=by
 rcases d with d|⟨b,o,l,m⟩
 ·exact .inl d
 ·refine .inr ⟨b,o,l,λi x n=>?_⟩
  obtain⟨k,r,s,t,B,c,u,y⟩:=m i x n;have a:∀(j:Nat) (v:Value),w.cell? ⟨b,j,none⟩=some v->w'.cell? ⟨b,j,none⟩=some v:=λj v hv=>(g.I (p:=⟨b,j,none⟩) (block_lt_of_cell hv) (e b k)).trans hv
  exact⟨k,r.imp λz q=>g.J q (e b k),a _ _ s,a _ _ t,B,c,a _ _ u,y.kp g e⟩
theorem dy.by_type{q:Nat}{T:TypeId}{cs:Array Value}(a:dy w F A ops)(g:aa (λb=>b=q) w w')(n:ae w q T cs)(c:106≠T):dy w' F A ops:=by
 rcases a with a|⟨b,o,c,m⟩
 ·exact .inl a
 ·refine .inr ⟨b,o,c,λk x r=>?_⟩
  obtain⟨s,⟨t,i⟩,l⟩:=m k x r;have e:b≠q:=ae.ne_ i n (by assumption);exact⟨s,⟨t,g.J i e⟩,λj v d=>(g.I (p:=⟨b,o+k*5+j,none⟩) (block_lt_of_cell (l j v d)) e).trans (l j v d)⟩
theorem dg.by_type{q:Nat}{T:TypeId}{cs:Array Value}(d:dg w F A p)(e:aa (λb=>b=q) w w')(g:ae w q T cs)(C:106≠T)(D:99≠T):dg w' F A p:=by
 rcases d with d|⟨b,o,m,n⟩
 ·exact .inl d
 ·refine .inr ⟨b,o,m,λi x r=>?_⟩
  obtain⟨s,⟨E,l⟩,t,u,B,c,y,z⟩:=n i x r;have k:b≠q:=ae.ne_ l g D;have a:∀(j:Nat) (v:Value),w.cell? ⟨b,j,none⟩=some v->w'.cell? ⟨b,j,none⟩=some v:=λj v hv=>(e.I (p:=⟨b,j,none⟩) (block_lt_of_cell hv) k).trans hv
  exact⟨s,⟨E,e.J l k⟩,a _ _ t,a _ _ u,B,c,a _ _ y,z.by_type e g C⟩
end
def fY(k:cZ):List Value:=[.int .i64 k.into,.bool k.given,.int .i64 k.r.v,.int .i64 k.r.e]
structure ix where
 PA:Option Addr
 pc:Nat
 args:Value
 fuel:Int
 rb:Nat
 rc:Nat
 kv:Value
 wp:Value
 rp:Value
def cY(L:ix)(p:List ah)(f:Fr):Array Value:=
 #[.slice L.PA p.length L.pc,.string (sB f.M),.int .i64 f.fn,L.args,.int .i64 L.fuel,.slice (some ⟨L.rb,0,none⟩) f.rg.length L.rc,.int .i64 (f.left:Int),.int .i64 f.at_,L.kv,.int .i64 (f.joined:Int),L.wp,L.rp]
structure aZ(w:World)(F:Nat->Prop)(fb:Nat)(L:ix)(p:List ah)(f:Fr):Prop where
 ff:F fb
 fr:F L.rb
 fk:∀b,L.kv.ownBlock=some b->F b
 J:ae w fb 232 (cY L p f)
 fns:dg w F L.PA p
 rg:ae w L.rb 2 (f.rg.map (Value.int .i64)).toArray
 kd:w.ownsRow 0 260 4 L.kv f.kd.length (f.kd.flatMap fY)
 wp:match f.waits with
  |none=>L.wp=.pointer none
  |some o=>∃q,F q/\L.wp=.pointer (some ⟨q,0,none⟩)/\ae w q 106 (eJ o).toArray
 rp:f.result=none->L.rp=.pointer none
 cap:f.rg.length<=L.rc
section
variable {w w':World}{F F':Nat->Prop}{fb:Nat}{L:ix}{p:List ah}{f:Fr}
theorem aZ.mo(a:aZ w F fb L p f)(c:∀b,F b->F' b):aZ w F' fb L p f:=by
 refine⟨c _ a.ff,c _ a.fr,λb i=>c _ (a.fk b i),a.J,a.fns.mo c,a.rg,a.kd,?_,a.rp,a.cap⟩;have:=a.wp;split<;>rename_i d<;>rw[d] at this
 ·exact this
 ·obtain⟨q,e,g⟩:=this
  exact⟨q,c _ e,g⟩
theorem aZ.kp{S:Nat->Prop}(a:aZ w F fb L p f)(d:aa S w w')(c:∀b,F b->¬S b):aZ w' F fb L p f:=by
 refine⟨a.ff,a.fr,a.fk,d.J a.J (c _ a.ff),a.fns.kp d c,d.J a.rg (c _ a.fr),d.owns a.kd (λk l=>c _ (a.fk k l)),?_,a.rp,a.cap⟩;have:=a.wp;split<;>rename_i g<;>rw[g] at this
 ·exact this
 ·obtain⟨q,e,i,j⟩:=this
  exact⟨q,e,i,d.J j (c _ e)⟩
end
theorem aZ.td{w w':World}{F:Nat->Prop}{fb:Nat}{L c:ix}{p:List ah}{f f':Fr}(a:aZ w F fb L p f)(e:aa (λb=>b=fb) w w')(r:ae w' fb 232 (cY c p f'))
 (l:c.PA=L.PA) (g:c.rb=L.rb) (i:c.kv=L.kv) (j:f'.rg=f.rg) (m:f'.kd=f.kd) (n:c.rc=L.rc)
 (u:match f'.waits with
  |none=>c.wp=.pointer none
  |some o=>∃q,F q/\c.wp=.pointer (some ⟨q,0,none⟩)/\ae w' q 106 (eJ o).toArray) (t:f'.result=none->c.rp=.pointer none):aZ w' F fb c p f':=by
 refine⟨a.ff,by rw[g];exact a.fr,by rw[i];exact a.fk,r,by rw[l];exact a.fns.by_type e a.J (by decide) (by decide),?_,?_,u,t,by rw[j,n];exact a.cap⟩
 ·rw[g,j]
  exact e.J a.rg (λd=>ae.ne_ a.rg a.J (by decide) d)
 ·rw[i,m]
  exact e.owns a.kd (λk s d=>aB a.kd a.J (by decide) (by rw[s,d]))
theorem aZ.wp_keep{w w':World}{F:Nat->Prop}{fb:Nat}{L:ix}{p:List ah}{f:Fr}(c:aZ w F fb L p f)(i:aa (λb=>b=fb) w w'):match f.waits with
 |none=>L.wp=.pointer none
 |some o=>∃q,F q/\L.wp=.pointer (some ⟨q,0,none⟩)/\ae w' q 106 (eJ o).toArray:=by
 have:=c.wp;split<;>rename_i a<;>rw[a] at this
 ·exact this
 ·obtain⟨q,e,g,d⟩:=this
  exact⟨q,e,g,i.J d (λa=>ae.ne_ d c.J (by decide) a)⟩
def nH(x:aD):Array Value:=#[.int .u8 4,.string ⟨#[]⟩,.int .i64 0,.slice none 0 0,.int .i64 0,.int .i64 x.v,.int .i64 x.e]
def jF(w w':World)(F:Nat->Prop)(fb:Nat)(L:ix)(p:List ah)(f:Fr)(x:aD)(e:Ending):Prop:=
 ∃q v,e=.returned (.pointer (some ⟨q,0,none⟩))/\w.heap.size<=q/\ae w' q 181 (nH x)/\aZ w' F fb {L with rp:=v} p {f with result:=some x}/\aa (λb=>b=fb) w w'
section
variable {w w':World}{F F':Nat->Prop}{fb:Nat}{L:ix}{p:List ah}{f:Fr}
theorem mH(x:aD)(n:∀b,F b->b<w.heap.size)(m:aZ w F fb L p f):Calls Tryz.prog 174 #[.pointer (some ⟨fb,0,none⟩),eO x] w λa w'=>jF w w' F fb L p f x a:=by
 obtain⟨c,i⟩:=eX (w.alloc (.cells #[.int .i64 x.v,.int .i64 x.e] 35));have o:ac w c:=by rw[i];exact(aa.refl _ w).alloc _
 have d:ae c w.heap.size 35 #[.int .i64 x.v,.int .i64 x.e]:=by rw[i];exact bN
 have e:=m.kp o nG;have B:=e.J.I 11;have G:=e.J.fz 11;simp[cY] at B;obtain⟨g,j⟩:=eX w.heap.size;rw[<-j] at d;obtain⟨H,K⟩:=d.gE2;have z:fb≠g:=λa=>by have:=n fb m.ff;omega
 have l:=hD e;have C:=hD d;have r:=hD o;have q:=hD j;have E:=hD z;have D:=hD n;have s:=hD i.symm;clear m e d o j i n;unfold eO;go_enter Tryz.func174,Tryz.ntmps174;go_upto_region 1 with fail;rw[s.O,<-q.O];clear s;go_wp2_with fail;go_ret;have j:=q.O;have k:=af c fb 11 (.pointer (some ⟨g,0,none⟩));have y:ae (c.setCell ⟨fb,11,none⟩ (.pointer (some ⟨g,0,none⟩))) fb 232 (cY {L with rp:=.pointer (some ⟨g,0,none⟩)} p {f with result:=some x}):=l.O.J.s_ 11 _;have u:aZ _ F fb {L with rp:=.pointer (some ⟨g,0,none⟩)} p {f with result:=some x}:=l.O.td k y rfl rfl rfl rfl rfl rfl (l.O.wp_keep k) (λa=>by cases a);have t:ac (c.setCell ⟨fb,11,none⟩ (.pointer (some ⟨g,0,none⟩))) ((c.setCell ⟨fb,11,none⟩ (.pointer (some ⟨g,0,none⟩))).alloc (.cells (nH x) 181)):=oR.alloc _;refine⟨(c.setCell ⟨fb,11,none⟩ (.pointer (some ⟨g,0,none⟩))).heap.size,.pointer (some ⟨g,0,none⟩),by simp,?_,bN,u.kp t nG,((r.O.mono λ_ a=>a.elim).trans k).trans (t.mono λ_ a=>a.elim)⟩;have:=k.size;have:=r.O.size;omega
theorem lP(c:Int)(i:∀b,F b->b<w.heap.size)(e:aZ w F fb L p f):Calls Tryz.prog 173 #[.pointer (some ⟨fb,0,none⟩),.int .i64 c] w λd w'=>jF w w' F fb L p f ⟨0,c⟩ d:=by
 have a:=hD (mH (x:=⟨0,c⟩) i e);clear e i;unfold eO at a;go_enter Tryz.func173,Tryz.ntmps173;go_wp2_with fail;refine a.O.mono ?_;rintro d w' ⟨q,v,rfl,g⟩;have j:=hD g;clear g a;go_wp2_with fail;go_ret;exact⟨q,v,rfl,j.O⟩
theorem lY(a:aZ w F fb L p f)(b:p≠[]):Calls Tryz.prog 138 #[.pointer (some ⟨fb,0,none⟩)] w λc w'=>c=.returned (.bool false)/\w=w':=by
 have d:=a.J.I 0;simp[cY] at d;have e:((p.length:Int)==0)=false:=bF (by have:=zK.2 b;omega);generalize (p.length:Nat)=n at*;clear a b;go_enter Tryz.func138,Tryz.ntmps138;go_wp2_with fail;go_ret;exact⟨rfl,rfl⟩
end
theorem jI:∀(l:List cZ) (i j:Nat) (k:cZ),l[i]?=some k->j<4->(l.flatMap fY)[i*4+j]?=(fY k)[j]?
 | [],i,j,k,b,_=>by simp at b
 |a :: l,0,j,k,b,c=>by
  simp only[zQ,yC] at b;subst b;rw[yZ,yi (by simp[fY];omega)];simp
 |a :: l,i+1,j,k,b,c=>by
  rw[yZ,yK (by simp[fY];omega)];have:(i+1)*4+j-(fY a).length=i*4+j:=by simp[fY];omega
  rw[this];exact jI l i j k (by simpa using b) c
theorem tx:∀(l:List cZ) (i:Nat) (k:cZ) (r:aD),l[i]?=some k->
 (((l.flatMap fY).set (i*4+1) (.bool true)).set (i*4+2) (.int .i64 r.v)).set (i*4+3) (.int .i64 r.e)=(l.set i ⟨k.into,true,r⟩).flatMap fY
 | [],i,k,r,b=>by simp at b
 |a :: l,0,k,r,b=>by
  simp only[zQ,yC] at b;subst b;simp[fY]
 |a :: l,i+1,k,r,b=>by
  have j:=tx l i k r (by simpa using b);have c:(i+1)*4+1=(i*4+1)+1+1+1+1:=by omega
  have d:(i+1)*4+2=(i*4+2)+1+1+1+1:=by omega
  have g:(i+1)*4+3=(i*4+3)+1+1+1+1:=by omega
  rw[List.set_cons_succ,yZ,yZ,<-j,c,d,g];simp[fY]
section
variable {w w':World}{F F':Nat->Prop}{fb:Nat}{L:ix}{p:List ah}{f:Fr}
theorem aZ.kv_form(b:aZ w F fb L p f):(L.kv=.slice none 0 0/\f.kd= [])\/∃kb c,L.kv=.slice (some ⟨kb,0,none⟩) f.kd.length c/\F kb/\(∃g,ae w kb 260 g)/\kb<w.heap.size:=by
 rcases b.kd.2 with⟨a,e⟩|⟨kb,c,cur,a,i,d,_⟩
 ·exact .inl ⟨a,yr e⟩
 ·exact .inr ⟨kb,c,a,b.fk kb (by rw[a];rfl),⟨cur,d⟩,(yu.1 d).1⟩
theorem aZ.kv_any(b:aZ w F fb L p f):∃A c,L.kv=.slice A f.kd.length c:=by
 rcases b.kv_form with⟨a,d⟩|⟨kb,c,a,_⟩
 ·exact⟨none,0,by rw[a,d];rfl⟩
 ·exact⟨_,c,a⟩
theorem aZ.kids_set{kb:Nat}{n:Array Value}{g:List cZ}(a:aZ w F fb L p f)(d:aa (λb=>b=kb) w w')(e:ae w kb 260 n)(m:w'.ownsRow 0 260 4 L.kv f.kd.length (g.flatMap fY))(l:g.length=f.kd.length):
 aZ w' F fb L p {f with kd:=g}:=by
 refine⟨a.ff,a.fr,a.fk,d.J a.J (λc=>ae.ne_ a.J e (by decide) c),a.fns.by_type d e (by decide) (by decide),d.J a.rg (λc=>ae.ne_ a.rg e (by decide) c),by rw[l];exact m,?_,a.rp,a.cap⟩;have:=a.wp
 show match f.waits with
  |none=>L.wp=.pointer none
  |some o=>∃q,F q/\L.wp=.pointer (some ⟨q,0,none⟩)/\ae w' q 106 (eJ o).toArray
 split<;>rename_i c<;>rw[c] at this
 ·exact this
 ·obtain⟨q,j,k,i⟩:=this
  exact⟨q,j,k,d.J i (λc=>ae.ne_ i e (by decide) c)⟩
theorem Cv(a:aZ w F fb L p f)(e:p≠[]):Calls Tryz.prog 92 #[.pointer (some ⟨fb,0,none⟩)] w λb w'=>b=.returned (.int .i64 (f.kd.length:Int))/\w=w':=by
 obtain⟨A,c,d⟩:=a.kv_any;have i:=a.J.I 8;simp[cY,d] at i;have g:=hD (lY a e);generalize (f.kd.length:Nat)=n at*;clear a e d;go_enter Tryz.func92,Tryz.ntmps92;go_wp2_with fail;refine g.O.mono ?_;rintro b w' ⟨rfl,rfl⟩;go_wp2_with fail;go_ret;exact⟨rfl,rfl⟩
theorem Cj(i:Nat)(k:cZ)(x:aD)(an:∀b,F b->b<w.heap.size)(C:aZ w F fb L p f)(a0:p≠[])(q:f.kd[i]?=some k)(X:k.given=false)(a1:f.result=none)(az:f.kd.length<=16):
 Calls Tryz.prog 91 #[.pointer (some ⟨fb,0,none⟩),.int .i64 ((i:Int)+1),eO x] w λa w'=>a=.returned (.int .i64 0)/\aZ w' F fb L p {f with kd:=f.kd.set i ⟨k.into,true,x⟩}/\aa F w w':=by
 have Y:=(gS q).1
 rcases C.kv_form with⟨_,am⟩|⟨kb,c,r,aw,⟨b8,a3⟩,_⟩
 ·rw[am] at Y
  simp at Y
 obtain⟨d,o⟩:=eX (w.alloc (.cells #[.int .i64 x.v,.int .i64 x.e] 35));have G:ac w d:=by rw[o];exact(aa.refl _ w).alloc _
 have B:ae d w.heap.size 35 #[.int .i64 x.v,.int .i64 x.e]:=by rw[o];exact bN
 have e:=C.kp G nG;have a9:=hD (lY e a0);have N:=e.J.I 8;have a5:=e.J.I 11;simp[cY,r,e.rp a1] at N a5;have s:=e.kd;have a8:=hD r;rw[r] at s;have j:=s.cells (g:=kb) rfl (i*4+1) (.bool false) (by rw[jI _ _ 1 k q (by omega)];simp[fY,X]);have av:¬(f.kd.length:Int)<(i:Int)+1:=by omega
 have b0:decide ((f.kd.length:Int)<(i:Int)+1)=false:=yd av;have aE:¬(i:Int)+1<1:=by omega
 have b1:decide ((i:Int)+1<1)=false:=yd aE;have b6:(0:Int)<=(i:Int):=by omega
 have b7:(i:Int)<(f.kd.length:Int):=by omega
 have b2:IntKind.i64.wrap ((i:Int)+1-1)=(i:Int):=by rw[aR];unfold wrap64;omega
 have b3:wrap64 ((i:Int)+1-1)=(i:Int):=by unfold wrap64;omega
 have b4:IntKind.i64.wrap (i:Int)=(i:Int):=by rw[aR];unfold wrap64;omega
 have b5:wrap64 (i:Int)=(i:Int):=by unfold wrap64;omega
 rw[bw,yq] at j;obtain⟨g,E⟩:=eX w.heap.size;rw[<-E] at B;go_enter Tryz.func91,Tryz.ntmps91;unfold eO;have y:=hD e;have P:=hD B;have m:=hD G;have a7:=hD E;have n:=hD s;have l:=hD q;have z:=hD a3;have Q:=hD o.symm;clear C e B G E s q a3 o a0 a1 az X r an;go_upto_region 1 with fail;rw[Q.O,<-a7.O];clear Q;go_wp2_with fail;refine a9.O.mono ?_;rintro a w' ⟨rfl,rfl⟩;go_wp2_with fail;clear j a5
 have V:Hd (∀W,aa (λb=>b=kb) d W->aa (λb=>b=kb) d W/\W.cell? ⟨fb,8,none⟩=some (.slice (some ⟨kb,0,none⟩) f.kd.length c)/\W.cell? ⟨g,0,none⟩=some (.int .i64 x.v)/\W.cell? ⟨g,1,none⟩=some (.int .i64 x.e)):=hD λW D=>by
  have a2:=m.O.J z.O nF;have a4:=D.J P.O (λa=>ae.ne_ P.O a2 (by decide) a);refine⟨D,?_,a4.I 0,a4.I 1⟩;rw[<-N];exact D.I (p:=⟨fb,8,none⟩) y.O.J.lt (λa=>ae.ne_ y.O.J a2 (by decide) a)
 have ar:=V.O d oR;have u:=m.O.J z.O nF;have j:=n.O.cells (g:=kb) rfl (i*4+1) _ (jI _ _ 1 k l.O (by omega));have R:=n.O.cells (g:=kb) rfl (i*4+2) _ (jI _ _ 2 k l.O (by omega));have S:=n.O.cells (g:=kb) rfl (i*4+3) _ (jI _ _ 3 k l.O (by omega));rw[bw,yq] at j R S;have ad:=u.fz (i*4+1);have ai:=u.fz (i*4+2);have al:=u.fz (i*4+3);clear N u
 go_region_held3 (λw'=>aa (λb=>b=kb) d w'/\w'.cell? ⟨fb,8,none⟩=some (.slice (some ⟨kb,0,none⟩) f.kd.length c)/\w'.cell? ⟨g,0,none⟩=some (.int .i64 x.v)/\w'.cell? ⟨g,1,none⟩=some (.int .i64 x.e))
  (first|(refine V.O _ ?_;repeat (first|with_reducible exact oR|with_reducible refine aa.drew ?_|with_reducible refine aJ ?_))|fail) (fail)
 obtain⟨K,t⟩:=eX ((((d.setCell ⟨kb,i*4+1,none⟩ (.bool true)).setCell ⟨kb,i*4+2,none⟩ (.int .i64 x.v)).setCell ⟨kb,i*4+3,none⟩ (.int .i64 x.e)).drew);rw[<-t];have H:aa (λb=>b=kb) d K:=by rw[t];exact(aJ (aJ (af _ _ _ _))).drew
 have Z:K.ownsRow 0 260 4 (.slice (some ⟨kb,0,none⟩) f.kd.length c) f.kd.length ((f.kd.set i ⟨k.into,true,x⟩).flatMap fY):=by
  rw[t,<-tx f.kd i k x l.O];exact(((n.O.stored (i*4+1) (.bool true)).1.stored (i*4+2) (.int .i64 x.v)).1.stored (i*4+3) (.int .i64 x.e)).1
 have T:aZ K F fb L p {f with kd:=f.kd.set i ⟨k.into,true,x⟩}:=y.O.kids_set H (m.O.J z.O nF) (by rw[a8.O];exact Z) (by simp);have a6:=hD T;have ab:=hD H;clear j R S ad ai al ar t H Z T;go_wp2_with fail;go_ret;exact⟨rfl,a6.O,(m.O.mono λ_ a=>a.elim).trans (ab.O.mono λb a=>by rw[a];exact aw)⟩
end
theorem D1:∃i,Tryz.prog.info? 260=some i/\i.zero=some (.agg #[.int .i64 0,.bool false,.int .i64 0,.int .i64 0])/\i.size=4/\i.bytes=32:=by
 have a:(Tryz.prog.info? 260).map (λi=>(i.zero,i.size,i.bytes))=some (some (.agg #[.int .i64 0,.bool false,.int .i64 0,.int .i64 0]),4,32):=by kernel_rfl
 cases hi:Tryz.prog.info? 260 with
 |none=>rw[hi] at a;cases a
 |some i=>
  rw[hi] at a;simp only[yU,yC,yP] at a;exact⟨i,rfl,a⟩
theorem mr{w:World}{base:Nat}{a:TypeId}{j n:Nat}{v:Value}{xs:List Value}(d:w.ownsRow base a j v (n+1) xs):∃b c,v=.slice (some ⟨b,0,none⟩) (n+1) c:=by
 rcases dj d with⟨_,e⟩|⟨g,c,i,_⟩
 ·cases e
 ·exact⟨g,c,i⟩
theorem Ax{n:Nat}(a:n<16):(n+1)*32<=140737488355328:=by omega
theorem D5{n:Nat}(a:n<16):n+1<=maxLen:=by unfold maxLen;omega
theorem qz{ops:Array Oper}{o:Oper}{a:Act}{W:World}{c:Act->World->Prop}{Q:Exit->Act->World->Prop}{g:Prop}{q:Nat}{cs:List Value}(t:o.guard=none)(s x:Operand)
 (z:o.op=.call {callee:=.builtin .append,args:=#[s,x],argTypes:=#[228,228]}) (v:Value) (C:a.eval s=v) (G:a.eval x=.slice (some ⟨q,0,none⟩) 1 1)
 (l:cs.length=4) (n:Nat) (xs:List Value) (B:W.ownsRow 0 260 4 v n xs) (d:ae W q 260 cs.toArray) (e:n<16) (k:∀u∈cs,u.oneCell'=true)
 (m:∀b w',w'.ownsRow 0 260 4 b (n+1) (xs++cs)->W.grownBy w' v.ownBlock->(b.ownBlock=v.ownBlock\/b.ownBlock=some W.heap.size)->c (a.put o.dst b) w'):
 if Region.wanted o (yielded ops a.tmps)=true then Oper.wp Tryz.prog o a W c Q else g:=by
 obtain⟨i,y,H,D,r⟩:=D1;refine kj W t s x 228 z 0 260 i _ 4 32 Tryz.underlying228 y H D r rfl (by decide) v n xs C B W.heap.size (some ⟨q,0,none⟩) 1 1 cs G ⟨by rw[l],λ_=>⟨⟨q,0,none⟩,rfl,d.lt,λj u E=>?_⟩⟩ k (D5 e) (Ax e) (yx _) m;rw[bw,yq,d.I,zi];exact E
theorem aZ.appended{w w' j:World}{F F':Nat->Prop}{fb:Nat}{L:ix}{p:List ah}{f:Fr}{i:Value}{k:cZ}(d:aZ w F fb L p f)(g:aa (λb=>L.kv.ownBlock=some b) w w')(n:aa (λb=>b=fb) w' j)
 (t:w'.ownsRow 0 260 4 i (f.kd.length+1) (f.kd.flatMap fY++fY k)) (l:∀b,F b->F' b) (z:∀b,i.ownBlock=some b->F' b) (v:ae j fb 232 (cY {L with kv:=i} p {f with kd:=f.kd++ [k]})):
 aZ j F' fb {L with kv:=i} p {f with kd:=f.kd++ [k]}:=by
 have m:ae w' fb 232 (cY L p f):=g.J d.J (λa=>aB d.kd d.J (by decide) a)
 have y:dg w' F L.PA p:=by
  rcases d.kv_form with⟨e,_⟩|⟨kb,c,e,_,⟨C,B⟩,_⟩
  ·exact d.fns.kp g (λb _ a=>by rw[e] at a;cases a)
  ·refine d.fns.by_type (q:=kb) (g.mono λb a=>?_) B (by decide) (by decide)
   rw[e] at a;exact(yz a).symm
 refine⟨l _ d.ff,l _ d.fr,z,v,(y.by_type n m (by decide) (by decide)).mo l,?_,?_,?_,d.rp,d.cap⟩
 ·have:=g.J d.rg (λa=>aB d.kd d.rg (by decide) a)
  exact n.J this (λa=>ae.ne_ this m (by decide) a)
 ·have:=n.owns t (λb x a=>aB t m (by decide) (by rw[x,a]))
  show j.ownsRow 0 260 4 i (f.kd++ [k]).length ((f.kd++ [k]).flatMap fY);rw[yk,zL]
  simpa using this
 ·have:=d.wp
  show match f.waits with
   |none=>L.wp=.pointer none
   |some o=>∃q,F' q/\L.wp=.pointer (some ⟨q,0,none⟩)/\ae j q 106 (eJ o).toArray
  split<;>rename_i a<;>rw[a] at this
  ·exact this
  ·obtain⟨q,e,u,r⟩:=this
   have s:=g.J r (λa=>aB d.kd r (by decide) a);exact⟨q,l _ e,u,n.J s (λa=>ae.ne_ s m (by decide) a)⟩
theorem mY{W8 W w':World}{c:Option Nat}(e:W.grownBy w' c)(d:ac W8 W):aa (λb=>c=some b) W8 w':=aa.grown (d.mono λ_ a=>a.elim) e (λk a=>.inl a)
theorem rE{W8 W:World}{v d:Value}(g:d.ownBlock=v.ownBlock\/d.ownBlock=some W.heap.size)(e:ac W8 W)(b:Nat)(c:d.ownBlock=some b):v.ownBlock=some b\/W8.heap.size<=b:=by
 rcases g with a|a
 ·exact .inl (by rw[<-a];exact c)
 ·rw[a] at c
  have:=e.size;have i:=yz c;exact .inr (by omega)
theorem qU{w:World}{base:Nat}{d:TypeId}{i n b:Nat}{v:Value}{xs:List Value}(e:w.ownsRow base d i v n xs)(a:v.ownBlock=some b):b<w.heap.size:=by
 rcases dj e with⟨rfl,_⟩|⟨g,c,rfl,_,_,_,j⟩
 ·cases a
 ·have:g=b:=yz a
  omega
def mg(t:aj)(A:Option Addr)(c:Nat):Array Value:=#[.int .u8 2,.string (sB t.M),.int .i64 t.fn,.slice A t.args.length c,.int .i64 (t.fuel:Int),.int .i64 0,.int .i64 0]
theorem DB(l:Nat):((l:Int).tdiv 2)=((l / 2:Nat):Int):=by
 rw[Int.tdiv_eq_ediv_of_nonneg (by omega)];omega
theorem uF{l:Nat}(a:l<=1000000):wrap64 (l:Int)=(l:Int):=by unfold wrap64;omega
theorem va{l:Nat}(a:l<=1000000):l / 2<=1000000:=by omega
theorem dB(n:Nat):(0:Int)<=(n:Int):=by omega
theorem cy{n a:Nat}(b:n<a):(n:Int)<(a:Int):=by omega
theorem Be{a:Nat}(b:¬a=0):(0:Int)<(a:Int):=by omega
theorem pR{a b l c:Nat}(e:a+b<=l)(i:l<=1000)(g:l<=c):wrap64 ((a:Int)+(b:Int))=((a+b:Nat):Int)/\IntKind.i64.wrap ((a:Int)+(b:Int))=((a+b:Nat):Int)/\(0:Int)<=(a:Int)/\(a:Int)<=((a+b:Nat):Int)/\((a+b:Nat):Int)<=(c:Int)/\(0:Int)<=((a+b:Nat):Int):=by
 have d:wrap64 ((a:Int)+(b:Int))=((a+b:Nat):Int):=by unfold wrap64;omega
 exact⟨d,(aR _).trans d,by omega,by omega,by omega,by omega⟩
theorem AD{a b l:Nat}(c:a+b<=l)(d:l<=1000):b<=100000:=by omega
theorem oL{l:List Int}{a b k:Nat}(c:k<((l.drop a).take b).length):k<b/\a+k<l.length:=by
 rw[ze,zF] at c;omega
theorem nQ{l:List Int}{a b:Nat}{x:Int}(d:x=(b:Int))(c:x=0\/(a:Int)+x<=l.length):((l.drop a).take b).length=b:=by
 rw[ze,zF];omega
theorem sr{a b l:Nat}{x:Int}(d:¬b=0)(e:x=(b:Int))(c:x=0\/(a:Int)+x<=(l:Int)):a+b<=l:=by omega
theorem sF{l:List Int}{a b:Nat}(c:a+b<=l.length):((l.drop a).take b).length=b:=by
 rw[ze,zF];omega
theorem sL{n:Nat}(a:n<16):¬(16:Int)<=(n:Int):=by omega
theorem ky(n:Nat):((n+1:Nat):Int)=(n:Int)+1:=by omega
theorem cK(k:Nat):Value.int .i64 ((k:Int)+1)=.int .i64 ((k+1:Nat):Int):=yl (Value.int .i64) (ky k).symm
theorem cH{a:Int}{k:Nat}(b:a=(k:Int)+1):Value.int .i64 a=.int .i64 ((k+1:Nat):Int):=yl (Value.int .i64) (b.trans (ky k).symm)
theorem kJ{n:Nat}(a:n<16):wrap64 ((n:Int)+1)=(n:Int)+1:=by unfold wrap64;omega
theorem nC{l a b:Nat}(d:l<=1000000)(e:a=l)(g:b=a / 2):wrap64 ((a:Int)-(b:Int))=((a-b:Nat):Int)/\IntKind.i64.wrap ((a:Int)-(b:Int))=((a-b:Nat):Int):=by
 have c:wrap64 ((a:Int)-(b:Int))=((a-b:Nat):Int):=by unfold wrap64;omega
 exact⟨c,(aR _).trans c⟩
theorem EE{g s b t:Nat}(c:g<s)(d:s<=b/\b<t)(a:b=g):False:=by omega
section
variable {w w':World}{F F':Nat->Prop}{fb:Nat}{L:ix}{p:List ah}{f:Fr}
theorem Cd(o:bI)(fn l:Nat)(x:ah)(f3:∀b,F b->b<w.heap.size)(c7:aZ w F fb L p f)(a4:f.kd.length<16)(b3:f.M.length<12)(dp:fT f.M)(d9:o.n=fn)(dv:p[fn]?=some x)(d5:o.a=l)
 (dw:0<=x.args) (Z:x.args=0\/(l:Int)+x.args<=f.rg.length) (an:f.rg.length<=1000) (b2:f.left<=1000000):
 Calls Tryz.prog 176 #[.pointer (some ⟨fb,0,none⟩),cR o] w λe w'=>∃q A c kv,e=.returned (.pointer (some ⟨q,0,none⟩))/\w.heap.size<=q/\ae w' q 181 (mg (dc p f.M f.kd.length o f.rg f.left) A c)/\aL w' (λb=>w.heap.size<=b/\b<w'.heap.size) A (dc p f.M f.kd.length o f.rg f.left).args/\
  aZ w' (λb=>F b\/w.heap.size<=b/\b<w'.heap.size) fb {L with kv:=kv} p {f with left:=f.left-f.left / 2,kd:=f.kd++ [⟨o.d,false,⟨0,0⟩⟩]}/\aa F w w':=by
 obtain⟨a8,cb⟩:=eX (w.alloc (.cells #[.int .u8 o.k,.int .i64 o.d,.int .i64 (l:Int),.int .i64 o.b,.int .i64 (fn:Int)] 106));have e2:ac w a8:=by rw[cb];exact(aa.refl _ w).alloc _
 have cr:ae a8 w.heap.size 106 #[.int .u8 o.k,.int .i64 o.d,.int .i64 (l:Int),.int .i64 o.b,.int .i64 (fn:Int)]:=by rw[cb];exact bN
 have B:=c7.kp e2 nG;obtain⟨A,c,dk⟩:=c7.kv_any;obtain⟨g,da⟩:=eX w.heap.size;rw[<-da] at cr;obtain⟨n,bv⟩:=eX f.kd.length;rw[<-bv] at a4;obtain⟨kp,dd⟩:=eX (sB (f.M++ [UInt8.ofNat (n+1)]))
 have g7:Hd (∀W,Calls Tryz.prog 90 #[.string (sB f.M),.int .i64 ((n:Int)+1)] W λe w'=>e=.returned (.tuple #[.string kp,.bool true])/\ac W w'):=hD λW=>by
  have:=pY f.M dp (n+1) (Yh 1 n) a4 W;have e:=ky n;rw[e] at this;unfold lV at this;rw[yb (Yl b3),<-dd] at this;exact this
 have gw:=kJ a4;have hb:=(aR _).trans gw;have gu:=sL a4;have h9:decide ((16:Int)<=(n:Int))=false:=yd gu
 have br:Hd (∀W,ac a8 W->ac a8 W/\W.cell? ⟨fb,1,none⟩=some (.string (sB f.M))/\W.cell? ⟨fb,8,none⟩=some (.slice A n c)):=hD λW b1=>by
  have q:=(B.kp b1 nG).J;refine⟨b1,q.I 1,?_⟩;rw[q.I 8];simp[cY,dk,bv]
 have em:=hD dd;obtain⟨i,ce⟩ :∃i:Nat,x.args=(i:Int):=ym dw;have eb:=hD ce;have ft:=hD B;have g0:=hD cr;have bb:=hD e2;have g6:=hD da;have y:=hD dk;have er:=hD dv;have h7:=hD f3;have a2:=hD c7
 have bk:Hd (dc p f.M f.kd.length o f.rg f.left=⟨f.M++ [UInt8.ofNat (n+1)],(fn:Int),(f.rg.drop l).take i,f.left / 2⟩):=hD (by
  have gt:bG p (fn:Int)=x:=by unfold bG;rw[yo,yc,dv];rfl
  unfold dc;rw[d9,d5,gt,ce,bv];rfl)
 have cp:Hd (((f.rg.drop l).take i).length=i):=hD (nQ ce Z);have eq:=hD cb.symm;have el:=hD (aI a4 (aI b3 dp));have b6:=hD (aI dw (aI Z (aI an b2)));unfold cR;rw[d9,d5];have b9:=hD bv;clear c7 B cr e2 da dk cb f3 a4 b3 dp d9 d5 dw Z an b2 dv bv dd ce;go_enter Tryz.func176,Tryz.ntmps176;go_upto_region 1 with fail;rw[eq.O,<-g6.O];clear eq;have d2:=br.O a8 oR
 go_region_held3 (λw'=>ac a8 w'/\w'.cell? ⟨fb,1,none⟩=some (.string (sB f.M))/\w'.cell? ⟨fb,8,none⟩=some (.slice A n c))
  (first|exact br.O _ (yt ‹_›)|exact br.O _ (aa.drew (yt ‹_›))|exact br.O _ (aa.trans (aa.drew (yt ‹_›)) a0)|exact br.O _ (aa.trans (yt ‹_›) a0)|fail)
  (first|(go_at_call 90;refine(g7.O _).mono ?_;rintro e a3 ⟨rfl,a0⟩)|fail)
 have bm:Hd (ac a8 a3):=hD (yt ‹_›);clear d2 a0;have d0:=ft.O.kp bm.O nG;have fs:=d0.J.I 8;simp[cY,y.O,<-b9.O] at fs;have ea:=hD d0;have f5:=bm.O.J g0.O nF;have ec:=hD f5;clear d0 f5;go_wp2_with fail;clear fs;have dq:=DB f.left;have ch:=uF (va b6.O.2.2.2);have dr:=(aR _).trans ch
 have ai:Hd (∀W,ac a3 W->ac a3 W/\W.cell? ⟨g,4,none⟩=some (.int .i64 (fn:Int))/\W.cell? ⟨fb,6,none⟩=some (.int .i64 (f.left:Int))):=hD λW b1=>
  ⟨b1,(b1.J ec.O nF).I 4,(ea.O.kp b1 nG).J.I 6⟩
 obtain⟨E,b2⟩:=eX f.left;obtain⟨r,db⟩:=eX (E / 2);rw[<-b2] at dq ch dr ai;rw[<-db] at dq ch dr;have G:=hD (aI b2 db);clear b2 db;have d2:=ai.O a3 oR
 go_region_held3 (λw'=>ac a3 w'/\w'.cell? ⟨g,4,none⟩=some (.int .i64 (fn:Int))/\w'.cell? ⟨fb,6,none⟩=some (.int .i64 (E:Int)))
  (first|exact ai.O _ (yt ‹_›)|exact ai.O _ (aa.drew (yt ‹_›))|exact ai.O _ (aa.alloc (yt ‹_›) _)|exact ai.O _ (aa.alloc (aa.drew (yt ‹_›)) _)|fail) (fail)
 obtain⟨bo,cd⟩:=eX ((a3.alloc (.cells #[.string kp,.int .i64 (fn:Int),.slice none 0 0,.int .i64 (r:Int)] 30)).drew);obtain⟨z,cg⟩:=eX a3.heap.size;rw[<-cd,<-cg];have ci:ac a3 bo:=by rw[cd];exact(oR.alloc _).drew
 have f0:ae bo z 30 #[.string kp,.int .i64 (fn:Int),.slice none 0 0,.int .i64 (r:Int)]:=by rw[cd,cg];exact bN.drew
 have g1:=hD f0;have ek:=hD cg;have gc:=hD (bm.O.trans ci);have c8:=ea.O.kp ci nG;have fv:=hD c8;have d7:=ci.J ec.O nF;have g3:=hD d7;have Y:=(gS er.O).1
 rcases c8.fns with⟨_,N⟩|⟨hc,hd,K,N⟩
 ·rw[N] at Y
  exact absurd Y (zZ _)
 obtain⟨_,_,fj,_⟩:=N fn x er.O;rw[eb.O] at fj;have e4:=c8.J.I 0;simp[cY,K] at e4;obtain⟨pl,b3⟩:=eX p.length;rw[<-b3] at e4 Y;have gA:=dB fn;have gB:=cy Y;have h2:bo.cell? ⟨g,4,none⟩=some (.int .i64 (fn:Int)):=d7.I 4;clear d2 cd cg ci f0 c8 d7 Y K N b3 dq ch dr ai;go_wp2_with fail
 go_quiet (fail)
 obtain⟨aE,d3⟩:=eX (bo.drewN nq);rw[<-d3];have a0:ac bo aE:=by rw[d3];exact oR.drewN nq
 have es:=hD (gc.O.trans a0);have f2:=fv.O.kp a0 nG;have ck:=hD f2;have f6:=a0.J g1.O nF;have ee:=hD f6;have f7:=a0.J g3.O nF;have cn:=hD f7;clear d3 a0 f2 f6 f7 e4 fj h2 gA gB
 by_cases dm:i=0
 ·subst dm
  have gx:decide ((0:Int)<((0:Nat):Int))=false:=rfl;go_wp2_with fail;have b4:w.heap.size<=z:=by rw[ek.O];exact lT bb.O.size bm.O.size
  have g8:=hD b4;obtain⟨j,T⟩:=eX aE;obtain⟨u,d1⟩:=eX (none:Option Addr);obtain⟨H,f8⟩:=eX (0:Nat);rw[<-T];have a1:Hd (ae j z 30 #[.string kp,.int .i64 (fn:Int),.slice u 0 H,.int .i64 (r:Int)]):=hD (by rw[T,d1,f8];exact ee.O);have a7:Hd (ac w j):=hD (by rw[T];exact bb.O.trans es.O);have t:Hd (aZ j F fb L p f):=hD (a2.O.kp a7.O nG);have c6:Hd (aL j (λb=>w.heap.size<=b/\b<j.heap.size) u ((f.rg.drop l).take 0)):=hD (by rw[d1];exact .inl ⟨rfl,rfl⟩);have b8:Hd (ae j g 106 #[.int .u8 o.k,.int .i64 o.d,.int .i64 (l:Int),.int .i64 o.b,.int .i64 (fn:Int)]):=hD (by rw[T];exact cn.O);obtain⟨i,fa⟩:=eX (0:Nat);rw[<-fa] at a1 c6 bk cp;clear T d1 f8 b4 gx fa
  have bp:j.drew.cell? ⟨fb,6,none⟩=some (.int .i64 (E:Int)):=by
   have:=t.O.J.drew.I 6;simp[cY,<-G.O.1] at this;exact this
  have cs:j.cell? ⟨fb,6,none⟩=some (.int .i64 (E:Int)):=bp;have cB:=t.O.J.fz 6;have cw:j.cell? ⟨z,3,none⟩=some (.int .i64 (r:Int)):=a1.O.I 3;obtain⟨v1,v2⟩:=nC (b6.O.2.2.2) G.O.1 G.O.2
  go_still_tail 9,(by kernel_rfl)
  change wpList _ _ _ _ _ j.drew;go_wp2_with fail;obtain⟨W8,V⟩:=eX ((j.setCell ⟨fb,6,none⟩ (.int .i64 ((E-r:Nat):Int))).drew);rw[<-V];have R:aa (λb=>b=fb) j W8:=by rw[V];exact(af _ _ _ _).drew
  have s:Hd (aZ W8 F fb L p {f with left:=E-r}):=hD (t.O.td R (by rw[V];exact(t.O.J.s_ 6 _).drew) rfl rfl rfl rfl rfl rfl (t.O.wp_keep R) t.O.rp);have P:=hD R;have al:=R.J b8.O (λe=>ae.ne_ b8.O t.O.J (by decide) e);have g5:=hD al
  have cv:W8.cell? ⟨fb,8,none⟩=some (.slice A n c):=by
   rw[s.O.J.I 8];simp[cY,y.O,b9.O]
  have gn:=s.O.J.fz 8;have gm:W8.cell? ⟨g,1,none⟩=some (.int .i64 o.d):=al.I 1;have C:f.kd.length=n:=b9.O.symm;have ba:Hd (z≠fb):=hD (λe=>ae.ne_ a1.O t.O.J (by decide) e);have b7:Hd (ae W8 z 30 #[.string kp,.int .i64 (fn:Int),.slice u i H,.int .i64 (r:Int)]):=hD (P.O.J a1.O ba.O);have gs:∀az,(W8.alloc az).cell? ⟨fb,8,none⟩=some (.slice A n c):=λaz=>(World.cell?_alloc_lt W8 az ⟨fb,8,none⟩ s.O.J.lt).trans cv
  clear V R al bp cs cB cw v1 v2
  have am:W8.ownsRow 0 260 4 (.slice A n c) n (f.kd.flatMap fY):=by
   have:=s.O.kd;rw[y.O,C] at this;exact this
  have bf:=hD am;have dn:some z≠(Value.slice A n c).ownBlock:=λe=>aB bf.O b7.O (by decide) e.symm
  have bx:some fb≠(Value.slice A n c).ownBlock:=λe=>aB am s.O.J (by decide) e.symm
  clear am
  go_region_law (
   refine qz rfl _ _ rfl _ rfl rfl rfl n (f.kd.flatMap fY) (aa.owns (S:=λ_=>False) (by repeat (first|with_reducible exact oR|with_reducible refine aa.drew ?_|with_reducible refine aa.alloc ?_ _)) bf.O nG) (by first|exact bN|exact bN.drew) el.O.1 (by simp[Value.oneCell']) (λh3 w' K N c2=>?_);obtain⟨av,aw,rfl⟩:=mr K;have v:=mY (W8:=W8) N (by repeat (first|with_reducible exact oR|with_reducible refine aa.drew ?_|with_reducible refine aa.alloc ?_ _));have bz:=rE (W8:=W8) c2 (by repeat (first|with_reducible exact oR|with_reducible refine aa.drew ?_|with_reducible refine aa.alloc ?_ _));have kb:=ae.grown (aa.J (S:=λ_=>False) (by repeat (first|with_reducible exact oR|with_reducible refine aa.drew ?_|with_reducible refine aa.alloc ?_ _)) s.O.J nF) N bx;have c3:=kb.I 8;have e1:=kb.fz 8;simp[cY] at c3)
  all_goals (
   obtain⟨W9,X⟩:=eX (w'.setCell ⟨fb,8,none⟩ (.slice (some ⟨av,0,none⟩) (n+1) aw));rw[<-X];have D:aa (λb=>b=fb) w' W9:=by rw[X];exact af _ _ _ _
   have ab:=D.J (v.J b7.O (λe=>dn e.symm)) (λe=>ba.O e)
   have bq:aZ W9 (λb=>F b\/w.heap.size<=b/\b<W9.heap.size) fb {L with kv:=.slice (some ⟨av,0,none⟩) (n+1) aw} p {f with left:=E-r,kd:=f.kd++ [⟨o.d,false,⟨0,0⟩⟩]}:=by
    refine s.O.appended (by rw[y.O,C];exact v) D (by rw[C];exact K) (λb e=>.inl e) (λb e=>?_) (by rw[X];exact kb.s_ 8 _)
    rcases bz b e with ad|ad
    ·exact .inl (s.O.fk b (by rw[y.O,C];exact ad))
    ·refine .inr ⟨lT (lT a7.O.size P.O.size) ad,?_⟩
     have Y:=qU K e;exact lL Y D.size
   have cm:=hD bq;have g2:=hD ab
   have a6:aL W9 (λb=>w.heap.size<=b/\b<W9.heap.size) u ((f.rg.drop l).take i):=by
    have c1:=c6.O.by_type P.O t.O.J (by decide)
    have e0:aL w' (λb=>w.heap.size<=b/\b<j.heap.size) u ((f.rg.drop l).take i):=by
     rcases s.O.kv_form with⟨B,_⟩|⟨kb,c,B,_,⟨h4,dz⟩,_⟩
     ·refine c1.kp v (λb _ e=>?_)
      rw[y.O,C] at B;rw[B] at e
      cases e
     ·refine c1.by_type (q:=kb) (v.mono λb e=>?_) dz (by decide)
      rw[y.O,C] at B;rw[B] at e;exact(yz e).symm
    exact(e0.by_type D (v.J s.O.J (λe=>bx e.symm)) (by decide)).mo λb m=>⟨m.1,lL m.2 (lT P.O.size (lT v.size D.size))⟩
   have a6:=hD a6;have bn:Hd (aa F w W9):=hD ((((a7.O.mono λ_ e=>e.elim).trans (P.O.mono λb e=>by rw[e];exact a2.O.ff)).trans (v.mono λb e=>a2.O.fk b (by rw[y.O,C];exact e))).trans (D.mono λb e=>by rw[e];exact a2.O.ff));obtain⟨e6,e7,e8,e9⟩:=ab.gE4;clear bq ab D X kb c3 e1 K N c2 v bz;go_wp2_with fail;go_ret;have Q:ac W9 (W9.alloc (.cells #[.int .u8 2,.string kp,.int .i64 (fn:Int),.slice u i H,.int .i64 (r:Int),.int .i64 0,.int .i64 0] 181)):=oR.alloc _;have bt:f.left / 2=r:=by rw[G.O.2,G.O.1]
   have ds:E-r=f.left-f.left / 2:=by rw[bt,G.O.1]
   refine⟨W9.heap.size,u,H,.slice (some ⟨av,0,none⟩) (n+1) aw,rfl,bn.O.size,?_,?_,?_,bn.O.trans (Q.mono λ_ e=>e.elim)⟩
   ·have m:=ae.new W9 181 #[.int .u8 2,.string kp,.int .i64 (fn:Int),.slice u i H,.int .i64 (r:Int),.int .i64 0,.int .i64 0]
    rw[bk.O];unfold mg;simp only;rw[cp.O,<-em.O,bt];exact m
   ·rw[bk.O]
    exact(a6.O.kp Q nG).mo λb m=>⟨m.1,lL m.2 Q.size⟩
   ·rw[<-ds]
    exact(cm.O.kp Q nG).mo λb m=>m.imp id λe=>⟨e.1,lL e.2 Q.size⟩)
 ·have ha:(0:Int)<(i:Int):=Be dm
  have Z:l+i<=f.rg.length:=sr dm eb.O b6.O.2.1;have an:=b6.O.2.2.1;have cf:=ck.O.cap;have e5:=ck.O.J.I 5;simp[cY] at e5;have h1:aE.cell? ⟨g,2,none⟩=some (.int .i64 (l:Int)):=cn.O.I 2;obtain⟨rl,ar⟩:=eX f.rg.length;obtain⟨gD,c0⟩:=eX L.rc;obtain⟨e3,a5⟩:=eX L.rb;rw[<-ar,<-c0,<-a5] at e5;rw[<-ar] at Z an cf;rw[<-c0] at cf;obtain⟨gf,c9⟩:=eX (l+i);obtain⟨fl,fm,gN,fo,fp,fq⟩:=pR Z an cf;have fx:Hd (l+i<=rl):=hD Z;have g9:Hd (i<=100000):=hD (AD Z an);have h0:gf-l=i:=by rw[c9];exact Nat.add_sub_cancel_left l i
  rw[<-c9] at fl fm fo fp fq;have h6:=hD c9;have en:=hD (aI ar (aI c0 a5));clear ar c0 a5 Z an cf c9;go_wp2_with fail
  go_still_tail 11,(by kernel_rfl)
  change wpList _ _ _ _ _ aE.drew;obtain⟨cq,d4⟩:=eX aE.drew;rw[<-d4];have c4:ac aE cq:=by rw[d4];exact oR.drew
  have b0:=ck.O.kp c4 nG
  have f4:aL cq F (some ⟨e3,l,none⟩) ((f.rg.drop l).take i):=by
   obtain⟨ar,c0,a5⟩:=en.O;refine .inr ⟨e3,l,rfl,λ_=>⟨by rw[a5];exact b0.fr,_,by rw[a5];exact b0.rg⟩,λk a4=>⟨by rw[a5];exact b0.fr,?_⟩⟩;have f9:k<i/\l+k<f.rg.length:=oL a4;rw[a5,eU b0.rg f9.2];simp[yc,zN,f9.1]
  have dl:((f.rg.drop l).take i).length=i:=sF (by obtain⟨ar,_⟩:=en.O;rw[<-ar];exact fx.O);have d8:=mU (some ⟨e3,l,none⟩) ((f.rg.drop l).take i) (gD-l) F cq f4 (by rw[dl];exact g9.O);rw[dl] at d8;have ej:=hD d8;have fw:=hD b0;have ex:=hD (es.O.trans c4);have ef:=hD (c4.J ee.O nF);have g4:=hD (c4.J cn.O nF);clear d4 c4 b0 f4 dl d8 e5 h1;go_wp2_with fail;refine ej.O.mono ?_;rintro e eL ⟨u,H,rfl,fd,c5⟩;have gb:=hD fd;have a9:=c5.J ef.O nF;obtain⟨e6,e7,e8,e9⟩:=a9.gE4;have go:=a9.fz 0;have gp:=a9.fz 1;have gq:=a9.fz 2;have gr:=a9.fz 3;have eg:=hD a9;have ge:=hD (ex.O.trans c5);have h5:=hD (fw.O.kp c5 nG);have ei:=hD (c5.J g4.O nF);clear fd c5 a9 ej;go_wp2_with fail;obtain⟨j,T⟩:=eX (eL.setCell ⟨z,2,none⟩ (.slice u i H));rw[<-T];have b5:aa (λb=>b=z) eL j:=by rw[T];exact af _ _ _ _
  have f1:ae j z 30 #[.string kp,.int .i64 (fn:Int),.slice u i H,.int .i64 (r:Int)]:=by rw[T];exact eg.O.s_ 2 _
  have a1:=hD f1;have h8:=hD b5;have b4:w.heap.size<=z:=by rw[ek.O];exact lT bb.O.size bm.O.size
  have g8:=hD b4;have a7:Hd (ac w j):=hD ((bb.O.trans ge.O).trans' b5 (λb e=>.inr (by rw[e];exact b4)));have t:Hd (aZ j F fb L p f):=hD (a2.O.kp a7.O nG);have c6:Hd (aL j (λb=>w.heap.size<=b/\b<j.heap.size) u ((f.rg.drop l).take i)):=hD ((gb.O.kp b5 (λb m e=>EE ef.O.lt m e)).mo (λb m=>⟨lT (bb.O.trans ex.O).size m.1,lL m.2 b5.size⟩));have b8:Hd (ae j g 106 #[.int .u8 o.k,.int .i64 o.d,.int .i64 (l:Int),.int .i64 o.b,.int .i64 (fn:Int)]):=hD (b5.J ei.O (λe=>ae.ne_ ei.O eg.O (by decide) e));clear T b5 f1 b4 e6 e7 e8 e9 go gp gq gr;clear fl fm gN fo fp fq h0
  have bp:j.drew.cell? ⟨fb,6,none⟩=some (.int .i64 (E:Int)):=by
   have:=t.O.J.drew.I 6;simp[cY,<-G.O.1] at this;exact this
  have cs:j.cell? ⟨fb,6,none⟩=some (.int .i64 (E:Int)):=bp;have cB:=t.O.J.fz 6;have cw:j.cell? ⟨z,3,none⟩=some (.int .i64 (r:Int)):=a1.O.I 3;obtain⟨v1,v2⟩:=nC (b6.O.2.2.2) G.O.1 G.O.2
  go_still_tail 9,(by kernel_rfl)
  change wpList _ _ _ _ _ j.drew;go_wp2_with fail;obtain⟨W8,V⟩:=eX ((j.setCell ⟨fb,6,none⟩ (.int .i64 ((E-r:Nat):Int))).drew);rw[<-V];have R:aa (λb=>b=fb) j W8:=by rw[V];exact(af _ _ _ _).drew
  have s:Hd (aZ W8 F fb L p {f with left:=E-r}):=hD (t.O.td R (by rw[V];exact(t.O.J.s_ 6 _).drew) rfl rfl rfl rfl rfl rfl (t.O.wp_keep R) t.O.rp);have P:=hD R;have al:=R.J b8.O (λe=>ae.ne_ b8.O t.O.J (by decide) e);have g5:=hD al
  have cv:W8.cell? ⟨fb,8,none⟩=some (.slice A n c):=by
   rw[s.O.J.I 8];simp[cY,y.O,b9.O]
  have gn:=s.O.J.fz 8;have gm:W8.cell? ⟨g,1,none⟩=some (.int .i64 o.d):=al.I 1;have C:f.kd.length=n:=b9.O.symm;have ba:Hd (z≠fb):=hD (λe=>ae.ne_ a1.O t.O.J (by decide) e);have b7:Hd (ae W8 z 30 #[.string kp,.int .i64 (fn:Int),.slice u i H,.int .i64 (r:Int)]):=hD (P.O.J a1.O ba.O);have gs:∀az,(W8.alloc az).cell? ⟨fb,8,none⟩=some (.slice A n c):=λaz=>(World.cell?_alloc_lt W8 az ⟨fb,8,none⟩ s.O.J.lt).trans cv
  clear V R al bp cs cB cw v1 v2
  have am:W8.ownsRow 0 260 4 (.slice A n c) n (f.kd.flatMap fY):=by
   have:=s.O.kd;rw[y.O,C] at this;exact this
  have bf:=hD am;have dn:some z≠(Value.slice A n c).ownBlock:=λe=>aB bf.O b7.O (by decide) e.symm
  have bx:some fb≠(Value.slice A n c).ownBlock:=λe=>aB am s.O.J (by decide) e.symm
  clear am
  go_region_law (
   refine qz rfl _ _ rfl _ rfl rfl rfl n (f.kd.flatMap fY) (aa.owns (S:=λ_=>False) (by repeat (first|with_reducible exact oR|with_reducible refine aa.drew ?_|with_reducible refine aa.alloc ?_ _)) bf.O nG) (by first|exact bN|exact bN.drew) el.O.1 (by simp[Value.oneCell']) (λh3 w' K N c2=>?_);obtain⟨av,aw,rfl⟩:=mr K;have v:=mY (W8:=W8) N (by repeat (first|with_reducible exact oR|with_reducible refine aa.drew ?_|with_reducible refine aa.alloc ?_ _));have bz:=rE (W8:=W8) c2 (by repeat (first|with_reducible exact oR|with_reducible refine aa.drew ?_|with_reducible refine aa.alloc ?_ _));have kb:=ae.grown (aa.J (S:=λ_=>False) (by repeat (first|with_reducible exact oR|with_reducible refine aa.drew ?_|with_reducible refine aa.alloc ?_ _)) s.O.J nF) N bx;have c3:=kb.I 8;have e1:=kb.fz 8;simp[cY] at c3)
  all_goals (
   obtain⟨W9,X⟩:=eX (w'.setCell ⟨fb,8,none⟩ (.slice (some ⟨av,0,none⟩) (n+1) aw));rw[<-X];have D:aa (λb=>b=fb) w' W9:=by rw[X];exact af _ _ _ _
   have ab:=D.J (v.J b7.O (λe=>dn e.symm)) (λe=>ba.O e)
   have bq:aZ W9 (λb=>F b\/w.heap.size<=b/\b<W9.heap.size) fb {L with kv:=.slice (some ⟨av,0,none⟩) (n+1) aw} p {f with left:=E-r,kd:=f.kd++ [⟨o.d,false,⟨0,0⟩⟩]}:=by
    refine s.O.appended (by rw[y.O,C];exact v) D (by rw[C];exact K) (λb e=>.inl e) (λb e=>?_) (by rw[X];exact kb.s_ 8 _)
    rcases bz b e with ad|ad
    ·exact .inl (s.O.fk b (by rw[y.O,C];exact ad))
    ·refine .inr ⟨lT (lT a7.O.size P.O.size) ad,?_⟩
     have Y:=qU K e;exact lL Y D.size
   have cm:=hD bq;have g2:=hD ab
   have a6:aL W9 (λb=>w.heap.size<=b/\b<W9.heap.size) u ((f.rg.drop l).take i):=by
    have c1:=c6.O.by_type P.O t.O.J (by decide)
    have e0:aL w' (λb=>w.heap.size<=b/\b<j.heap.size) u ((f.rg.drop l).take i):=by
     rcases s.O.kv_form with⟨B,_⟩|⟨kb,c,B,_,⟨h4,dz⟩,_⟩
     ·refine c1.kp v (λb _ e=>?_)
      rw[y.O,C] at B;rw[B] at e
      cases e
     ·refine c1.by_type (q:=kb) (v.mono λb e=>?_) dz (by decide)
      rw[y.O,C] at B;rw[B] at e;exact(yz e).symm
    exact(e0.by_type D (v.J s.O.J (λe=>bx e.symm)) (by decide)).mo λb m=>⟨m.1,lL m.2 (lT P.O.size (lT v.size D.size))⟩
   have a6:=hD a6;have bn:Hd (aa F w W9):=hD ((((a7.O.mono λ_ e=>e.elim).trans (P.O.mono λb e=>by rw[e];exact a2.O.ff)).trans (v.mono λb e=>a2.O.fk b (by rw[y.O,C];exact e))).trans (D.mono λb e=>by rw[e];exact a2.O.ff));obtain⟨e6,e7,e8,e9⟩:=ab.gE4;clear bq ab D X kb c3 e1 K N c2 v bz;go_wp2_with fail;go_ret;have Q:ac W9 (W9.alloc (.cells #[.int .u8 2,.string kp,.int .i64 (fn:Int),.slice u i H,.int .i64 (r:Int),.int .i64 0,.int .i64 0] 181)):=oR.alloc _;have bt:f.left / 2=r:=by rw[G.O.2,G.O.1]
   have ds:E-r=f.left-f.left / 2:=by rw[bt,G.O.1]
   refine⟨W9.heap.size,u,H,.slice (some ⟨av,0,none⟩) (n+1) aw,rfl,bn.O.size,?_,?_,?_,bn.O.trans (Q.mono λ_ e=>e.elim)⟩
   ·have m:=ae.new W9 181 #[.int .u8 2,.string kp,.int .i64 (fn:Int),.slice u i H,.int .i64 (r:Int),.int .i64 0,.int .i64 0]
    rw[bk.O];unfold mg;simp only;rw[cp.O,<-em.O,bt];exact m
   ·rw[bk.O]
    exact(a6.O.kp Q nG).mo λb m=>⟨m.1,lL m.2 Q.size⟩
   ·rw[<-ds]
    exact(cm.O.kp Q nG).mo λb m=>m.imp id λe=>⟨e.1,lL e.2 Q.size⟩)
end
theorem xG(l:List UInt8)(b:fT l)(w:World):Calls Tryz.prog 90 #[.string (sB l),.int .i64 17] w λa w'=>a=.returned (.tuple #[.string ByteArray.empty,.bool false])/\ac w w':=by
 have d:=hD (lK l b w);clear b;generalize sB l=s at*;go_enter Tryz.func90,Tryz.ntmps90;go_wp2_with fail;refine d.O.mono ?_;rintro a g ⟨rfl,c⟩;have e:=hD c;clear c;go_wp2_with fail
 go_ret2
 exact⟨rfl,e.O⟩
theorem jF.back{b w w':World}{F:Nat->Prop}{fb:Nat}{L:ix}{p:List ah}{f:Fr}{x:aD}{a:Ending}(c:jF w w' F fb L p f x a)(o:ac b w):jF b w' F fb L p f x a:=by
 obtain⟨q,v,d,e,g,i,j⟩:=c;exact⟨q,v,d,lT o.size e,g,i,(o.mono λ_ a=>a.elim).trans j⟩
section
variable {w w':World}{F F':Nat->Prop}{fb:Nat}{L:ix}{p:List ah}{f:Fr}
theorem xU(o:bI)(D:∀b,F b->b<w.heap.size)(s:aZ w F fb L p f)(G:f.kd.length=16)(K:fT f.M):
 Calls Tryz.prog 176 #[.pointer (some ⟨fb,0,none⟩),cR o] w λe w'=>jF w w' F fb L p f ⟨0,132⟩ e:=by
 obtain⟨i,u⟩:=eX (w.alloc (.cells #[.int .u8 o.k,.int .i64 o.d,.int .i64 o.a,.int .i64 o.b,.int .i64 o.n] 106));have r:ac w i:=by rw[u];exact(aa.refl _ w).alloc _
 have t:=s.kp r nG;obtain⟨A,c,H⟩:=s.kv_any;obtain⟨g,E⟩:=eX w.heap.size;obtain⟨n,x⟩:=eX f.kd.length
 have j:Hd (∀W,ac i W->ac i W/\W.cell? ⟨fb,1,none⟩=some (.string (sB f.M))/\W.cell? ⟨fb,8,none⟩=some (.slice A n c)):=hD λW l=>by
  have q:=(t.kp l nG).J;refine⟨l,q.I 1,?_⟩;rw[q.I 8];simp[cY,H,x]
 have N:Hd (∀m W,ac i W->Calls Tryz.prog 173 #[.pointer (some ⟨fb,0,none⟩),.int .i64 m] W λe w'=>jF w w' F fb L p f ⟨0,m⟩ e):=hD λm W l=>by
  refine(lP m (λb T=>lL (D b T) (lT r.size l.size)) (t.kp l nG)).mono ?_;intro e w' k;exact k.back (r.trans l)
 have X:=hD E;have z:=hD u.symm;have P:Hd (∀W,Calls Tryz.prog 90 #[.string (sB f.M),.int .i64 17] W λe w'=>e=.returned (.tuple #[.string ByteArray.empty,.bool false])/\ac W w'):=hD (xG f.M K);rw[G] at x;subst x;clear s t r H u D G K E;unfold cR;go_enter Tryz.func176,Tryz.ntmps176;go_upto_region 1 with fail;rw[z.O];clear z;have S:=j.O i oR
 go_region_held3 (λw'=>ac i w'/\w'.cell? ⟨fb,1,none⟩=some (.string (sB f.M))/\w'.cell? ⟨fb,8,none⟩=some (.slice A 16 c))
  (first|exact j.O _ (yt ‹_›)|exact j.O _ (aa.drew (yt ‹_›))|exact j.O _ (aa.trans (aa.drew (yt ‹_›)) y)|exact j.O _ (aa.trans (yt ‹_›) y)|fail)
  (first|(go_at_call 90;refine(P.O _).mono ?_;rintro e C ⟨rfl,y⟩)|fail)
 have B:Hd (ac i C):=hD (yt ‹_›);have Y:=(j.O C B.O).2.2;clear S y;go_wp2_with fail;refine(N.O _ _ B.O).mono ?_;intro e w' k;have⟨q,v,R,V⟩:=k;subst R;have Q:=hD k;clear k V;go_wp2_with fail;go_ret;exact Q.O
theorem xT(o:bI)(E:∀b,F b->b<w.heap.size)(t:aZ w F fb L p f)(m:f.kd.length<16)(N:fT f.M)(K:f.M.length=12):
 Calls Tryz.prog 176 #[.pointer (some ⟨fb,0,none⟩),cR o] w λe w'=>jF w w' F fb L p f ⟨0,133⟩ e:=by
 obtain⟨i,x⟩:=eX (w.alloc (.cells #[.int .u8 o.k,.int .i64 o.d,.int .i64 o.a,.int .i64 o.b,.int .i64 o.n] 106));have s:ac w i:=by rw[x];exact(aa.refl _ w).alloc _
 have u:=t.kp s nG;obtain⟨A,c,H⟩:=t.kv_any;obtain⟨g,G⟩:=eX w.heap.size;obtain⟨n,y⟩:=eX f.kd.length
 have j:Hd (∀W,ac i W->ac i W/\W.cell? ⟨fb,1,none⟩=some (.string (sB f.M))/\W.cell? ⟨fb,8,none⟩=some (.slice A n c)):=hD λW l=>by
  have q:=(u.kp l nG).J;refine⟨l,q.I 1,?_⟩;rw[q.I 8];simp[cY,H,y]
 have P:Hd (∀r W,ac i W->Calls Tryz.prog 173 #[.pointer (some ⟨fb,0,none⟩),.int .i64 r] W λe w'=>jF w w' F fb L p f ⟨0,r⟩ e):=hD λr W l=>by
  refine(lP r (λb V=>lL (E b V) (lT s.size l.size)) (u.kp l nG)).mono ?_;intro e w' k;exact k.back (s.trans l)
 have a0:=hD G;have B:=hD x.symm;rw[<-y] at m
 have Q:Hd (∀W,Calls Tryz.prog 90 #[.string (sB f.M),.int .i64 ((n:Int)+1)] W λe w'=>e=.returned (.tuple #[.string ByteArray.empty,.bool false])/\ac W w'):=hD λW=>by
  have:=pY f.M N (n+1) (Yh 1 n) m W;have e:=ky n;rw[e] at this;unfold lV at this;rw[yf K] at this;exact this
 have Y:=kJ m;have a2:=(aR _).trans Y;have X:=sL m;have a1:decide ((16:Int)<=(n:Int))=false:=yd X;clear t u s H x E m N G y K;unfold cR;go_enter Tryz.func176,Tryz.ntmps176;go_upto_region 1 with fail;rw[B.O];clear B;have T:=j.O i oR
 go_region_held3 (λw'=>ac i w'/\w'.cell? ⟨fb,1,none⟩=some (.string (sB f.M))/\w'.cell? ⟨fb,8,none⟩=some (.slice A n c))
  (first|exact j.O _ (yt ‹_›)|exact j.O _ (aa.drew (yt ‹_›))|exact j.O _ (aa.trans (aa.drew (yt ‹_›)) z)|exact j.O _ (aa.trans (yt ‹_›) z)|fail)
  (first|(go_at_call 90;refine(Q.O _).mono ?_;rintro e D ⟨rfl,z⟩)|fail)
 have C:Hd (ac i D):=hD (yt ‹_›);have a3:=(j.O D C.O).2.2;clear T z;go_wp2_with fail;refine(P.O _ _ C.O).mono ?_;intro e w' k;have⟨q,v,S,Z⟩:=k;subst S;have R:=hD k;clear k Z;go_wp2_with fail;go_ret;exact R.O
end
def om(k:cZ):Value:=.agg #[.int .i64 k.into,.bool k.given,.int .i64 k.r.v,.int .i64 k.r.e]
theorem An(k:cZ)(w:World):Calls Tryz.prog 170 #[om k] w λa w'=>a=.returned (.bool (!k.given))/\ac w w':=by
 unfold om;go_enter Tryz.func170,Tryz.ntmps170;go_wp2_with fail;go_ret;exact⟨rfl,oR.alloc _⟩
theorem Ao(k:cZ)(w:World):Calls Tryz.prog 172 #[om k] w λa w'=>a=.returned (.bool (k.r.e !=0))/\ac w w':=by
 unfold om;go_enter Tryz.func172,Tryz.ntmps172;go_wp2_with fail;go_ret;exact⟨rfl,oR.alloc _⟩
def gM(w:World)(A:Option Addr)(l:List cZ):Prop:=∀(i:Nat) (k:cZ),l[i]?=some k->∃b o,A=some ⟨b,o,none⟩/\∀(j:Nat) (v:Value),(fY k)[j]?=some v->w.cell? ⟨b,o+i*4+j,none⟩=some v
theorem gM.kp{w w':World}{A:Option Addr}{l:List cZ}(c:gM w A l)(g:ac w w'):gM w' A l:=λi k e=>by
 obtain⟨b,o,d,a⟩:=c i k e;exact⟨b,o,d,λj v hv=>(g.I (p:=⟨b,o+i*4+j,none⟩) (block_lt_of_cell (a j v hv)) nF).trans (a j v hv)⟩
def fP(pr:cZ->Bool):List cZ->Nat->Int
 | [],_=>-1
 |a :: l,k=>if pr a=true then(k:Int) else fP pr l (k+1)
theorem Co(A:Option Addr)(l:List cZ)(c:Nat)(w:World)(D:gM w A l)(S:l.length<=1000):
 Calls Tryz.prog 171 #[.slice A l.length c,.func (.func 170) #[] #[]] w λj w'=>j=.returned (.int .i64 (fP (λk=>!k.given) l 0))/\ac w w':=by
 obtain⟨r,x⟩:=eX (fP (λk=>!k.given) l 0);rw[<-x];have P:=hD x;have K:=hD An;have N:=hD D;obtain⟨n,v⟩:=eX l.length;rw[<-v] at S ⊢;have B:=hD v;clear x D v;go_enter Tryz.func171,Tryz.ntmps171;go_wp2_with fail
 go_loopw [8] (λi wr=>∃k:Nat,k<=n/\i=.int .i64 k/\fP (λk=>!k.given) (l.drop k) k=r/\ac w wr) (λi _=>n-(intOf i).toNat)
 case atStart=>exact⟨0,yx _,rfl,P.O.symm,oR⟩
 case round=>
  obtain⟨k,Z,rfl,a,g⟩:=hrel
  by_cases u:k<n
  ·have a0:(0:Int)<=(k:Int):=dB k
   have R:(k:Int)<(n:Int):=cy u;have E:k<l.length:=by rw[<-B.O];exact u
   obtain⟨b,o,Q,e⟩:=N.O.kp g k l[k] (gG E);rw[yM E] at a;unfold fP at a;generalize l[k] =y at*;have H:=e 0 _ rfl;have T:=e 1 _ rfl;have V:=e 2 _ rfl;have X:=e 3 _ rfl;rw[yW] at H;subst Q;obtain⟨s,t⟩:=eX ((λk=>!k.given) y:Bool);have m:(if s=true then(k:Int) else fP (λk=>!k.given) (l.drop (k+1)) (k+1))=r:=by rw[t];exact a
   have z:Hd (∀W,Calls Tryz.prog 170 #[om y] W λj w'=>j=.returned (.bool s)/\ac W w'):=hD λW=>by rw[t];exact K.O y W
   have q:=hD g;clear e a g t;unfold om at z;go_wp2_with fail;refine(z.O _).mono ?_;rintro j Y ⟨rfl,G⟩;have C:=hD (q.O.trans G);clear G H T V X
   cases s
   ·have d:Hd (fP (λk=>!k.given) (l.drop (k+1)) (k+1)=r):=hD m
    clear m;go_wp2_with fail;go_roundw
    case rel=>exact⟨k+1,u,by go_num,d.O,C.O⟩
    case measure=>simp[intOf];omega
   ·have d:Hd ((k:Int)=r):=hD m
    clear m;go_wp2_with fail;go_ret;exact⟨by rw[<-d.O];rfl,C.O⟩
  ·have R:¬(k:Int)<(n:Int):=by omega
   have:k=n:=by omega
   subst this;rw[B.O,zq] at a;have d:=hD a;have q:=hD g;clear a g;go_wp2_with fail;go_ret;exact⟨by rw[<-d.O];rfl,q.O⟩
theorem lU(A:Option Addr)(l:List cZ)(c:Nat)(w:World)(D:gM w A l)(S:l.length<=1000):
 Calls Tryz.prog 171 #[.slice A l.length c,.func (.func 172) #[] #[]] w λj w'=>j=.returned (.int .i64 (fP (λk=>k.r.e !=0) l 0))/\ac w w':=by
 obtain⟨r,x⟩:=eX (fP (λk=>k.r.e !=0) l 0);rw[<-x];have P:=hD x;have K:=hD Ao;have N:=hD D;obtain⟨n,v⟩:=eX l.length;rw[<-v] at S ⊢;have B:=hD v;clear x D v;go_enter Tryz.func171,Tryz.ntmps171;go_wp2_with fail
 go_loopw [8] (λi wr=>∃k:Nat,k<=n/\i=.int .i64 k/\fP (λk=>k.r.e !=0) (l.drop k) k=r/\ac w wr) (λi _=>n-(intOf i).toNat)
 case atStart=>exact⟨0,yx _,rfl,P.O.symm,oR⟩
 case round=>
  obtain⟨k,Z,rfl,a,g⟩:=hrel
  by_cases u:k<n
  ·have a0:(0:Int)<=(k:Int):=dB k
   have R:(k:Int)<(n:Int):=cy u;have E:k<l.length:=by rw[<-B.O];exact u
   obtain⟨b,o,Q,e⟩:=N.O.kp g k l[k] (gG E);rw[yM E] at a;unfold fP at a;generalize l[k] =y at*;have H:=e 0 _ rfl;have T:=e 1 _ rfl;have V:=e 2 _ rfl;have X:=e 3 _ rfl;rw[yW] at H;subst Q;obtain⟨s,t⟩:=eX ((λk=>k.r.e !=0) y:Bool);have m:(if s=true then(k:Int) else fP (λk=>k.r.e !=0) (l.drop (k+1)) (k+1))=r:=by rw[t];exact a
   have z:Hd (∀W,Calls Tryz.prog 172 #[om y] W λj w'=>j=.returned (.bool s)/\ac W w'):=hD λW=>by rw[t];exact K.O y W
   have q:=hD g;clear e a g t;unfold om at z;go_wp2_with fail;refine(z.O _).mono ?_;rintro j Y ⟨rfl,G⟩;have C:=hD (q.O.trans G);clear G H T V X
   cases s
   ·have d:Hd (fP (λk=>k.r.e !=0) (l.drop (k+1)) (k+1)=r):=hD m
    clear m;go_wp2_with fail;go_roundw
    case rel=>exact⟨k+1,u,by go_num,d.O,C.O⟩
    case measure=>simp[intOf];omega
   ·have d:Hd ((k:Int)=r):=hD m
    clear m;go_wp2_with fail;go_ret;exact⟨by rw[<-d.O];rfl,C.O⟩
  ·have R:¬(k:Int)<(n:Int):=by omega
   have:k=n:=by omega
   subst this;rw[B.O,zq] at a;have d:=hD a;have q:=hD g;clear a g;go_wp2_with fail;go_ret;exact⟨by rw[<-d.O];rfl,q.O⟩
theorem mA(c:cZ->Bool):∀(l:List cZ) (k:Nat),decide ((0:Int)<=fP c l k)=l.any c
 | [],k=>by simp[fP]
 |a :: l,k=>by
  unfold fP
  by_cases b:c a=true
  ·rw[yf b]
   simp[b]
  ·rw[yb b,mA c l (k+1)]
   simp[b]
theorem tE(b:cZ->Bool):∀(l:List cZ) (k:Nat),0<=fP b l k->∃(i:Nat) (y:cZ),fP b l k=((k+i:Nat):Int)/\l[i]?=some y/\b y=true/\l.find? b=some y
 | [],k,c=>by simp[fP] at c
 |a :: l,k,c=>by
  unfold fP at c ⊢
  by_cases d:b a=true
  ·rw[yf d] at c ⊢
   exact⟨0,a,rfl,rfl,d,by simp[List.find?,d]⟩
  ·rw[yb d] at c ⊢
   obtain⟨i,y,e,g,j,m⟩:=tE b l (k+1) c;refine⟨i+1,y,?_,by simpa using g,j,?_⟩
   ·rw[e]
    have:k+1+i=k+(i+1):=by omega
    rw[this]
   ·have n:b a=false:=by simpa using d
    simp[List.find?,n,m]
theorem kC(A:Option Addr)(l:List cZ)(c:Nat)(w:World)(d:gM w A l)(e:l.length<=1000):
 Calls Tryz.prog 169 #[.slice A l.length c,.func (.func 170) #[] #[]] w λb w'=>b=.returned (.bool (l.any λk=>!k.given))/\ac w w':=by
 have a:=Co A l c w d e;rw[<-mA (λk=>!k.given) l 0];have i:=hD a;generalize fP (λk=>!k.given) l 0=r at*;generalize l.length=n at*;clear a d e;go_enter Tryz.func169,Tryz.ntmps169;go_wp2_with fail;refine i.O.mono ?_;rintro b m ⟨rfl,g⟩;have j:=hD g;clear g;go_wp2_with fail;go_ret;exact⟨rfl,j.O⟩
section
variable {w w':World}{F F':Nat->Prop}{fb:Nat}{L:ix}{p:List ah}{f:Fr}
theorem aZ.regs_set{e:List Int}(a:aZ w F fb L p f)(d:aa (λb=>b=L.rb) w w')(n:ae w' L.rb 2 (e.map (Value.int .i64)).toArray)(j:e.length=f.rg.length):aZ w' F fb L p {f with rg:=e}:=by
 have t:fb≠L.rb:=λc=>ae.ne_ a.rg a.J (by decide) c.symm
 have i:=d.J a.J t;have r:cY L p f=cY L p {f with rg:=e}:=by unfold cY;simp only;rw[j]
 rw[r] at i;refine⟨a.ff,a.fr,a.fk,i,a.fns.by_type d a.rg (by decide) (by decide),n,d.owns a.kd (λk s c=>aB a.kd a.rg (by decide) (by rw[s,c])),?_,a.rp,by rw[j];exact a.cap⟩;have:=a.wp
 show match f.waits with
  |none=>L.wp=.pointer none
  |some o=>∃q,F q/\L.wp=.pointer (some ⟨q,0,none⟩)/\ae w' q 106 (eJ o).toArray
 split<;>rename_i c<;>rw[c] at this
 ·exact this
 ·obtain⟨q,l,m,g⟩:=this
  exact⟨q,l,m,d.J g (λc=>ae.ne_ g a.rg (by decide) c)⟩
theorem aZ.reg_put(a:aZ w F fb L p f)(d:Nat)(x:Int):aZ (w.setCell ⟨L.rb,d,none⟩ (.int .i64 x)) F fb L p {f with rg:=f.rg.set d x}:=by
 refine a.regs_set (af _ _ _ _) ?_ (by simp);have:=a.rg.s_ d (.int .i64 x)
 have b:(f.rg.map (Value.int .i64)).toArray.setIfInBounds d (.int .i64 x)=((f.rg.set d x).map (Value.int .i64)).toArray:=by
  rw[List.setIfInBounds_toArray,List.map_set]
 rw[b] at this;exact this
theorem aZ.opens_at(d:aZ w F fb L p f){kb c:Nat}(n:L.kv=.slice (some ⟨kb,0,none⟩) f.kd.length c):gM w (some ⟨kb,f.joined*4,none⟩) f.os:=by
 intro i k e;refine⟨kb,f.joined*4,rfl,λj v hv=>?_⟩;have l:f.kd[f.joined+i]?=some k:=by simpa[Fr.os] using e
 have m:j<4:=by
  have:=(gS hv).1
  simpa[fY] using this
 have a:=d.kd;rw[n] at a;have:=a.cells (g:=kb) rfl ((f.joined+i)*4+j) v (by rw[jI _ _ j k l m];exact hv);rw[bw,yq] at this;have b:f.joined*4+i*4+j=(f.joined+i)*4+j:=by omega
 rw[b];exact this
theorem jP(A:Option Addr)(w:World):gM w A []:=λi k a=>by simp at a
end
def nI:Array Value:=#[.int .u8 3,.string ⟨#[]⟩,.int .i64 0,.slice none 0 0,.int .i64 0,.int .i64 0,.int .i64 0]
theorem ng{j n c:Nat}(a:j<n)(b:n<=c):(0:Int)<=(j:Int)/\(j:Int)<=(n:Int)/\(j:Int)<=(c:Int)/\(n:Int)<=(c:Int):=by omega
section
variable {w w':World}{F F':Nat->Prop}{fb:Nat}{L:ix}{p:List ah}{f:Fr}
theorem Au(o:bI)(a2:∀b,F b->b<w.heap.size)(r:aZ w F fb L p f)(a6:f.os.any (λc=>!c.given)=true)(i:f.joined<f.kd.length)(P:f.kd.length<=16):
 Calls Tryz.prog 139 #[.pointer (some ⟨fb,0,none⟩),cR o] w λe w'=>∃q v,e=.returned (.pointer (some ⟨q,0,none⟩))/\w.heap.size<=q/\ae w' q 181 nI/\
  aZ w' (λb=>F b\/w.heap.size<=b/\b<w'.heap.size) fb {L with wp:=v} p {f with waits:=some o}/\aa F w w':=by
 rcases r.kv_form with⟨_,ar⟩|⟨kb,c,N,b3,⟨b8,az⟩,_⟩
 ·rw[ar] at i
  exact absurd i (zZ _)
 obtain⟨j,x⟩:=eX (w.alloc (.cells #[.int .u8 o.k,.int .i64 o.d,.int .i64 o.a,.int .i64 o.b,.int .i64 o.n] 106));have T:ac w j:=by rw[x];exact(aa.refl _ w).alloc _
 have E:ae j w.heap.size 106 #[.int .u8 o.k,.int .i64 o.d,.int .i64 o.a,.int .i64 o.b,.int .i64 o.n]:=by rw[x];exact bN
 have l:=r.kp T nG;obtain⟨g,H⟩:=eX w.heap.size;rw[<-H] at E;have a9:=l.J.I 10;have an:=l.J.fz 10;simp[cY] at a9;have W:=l.J.I 8;have X:=l.J.I 9;simp[cY,N] at W X
 have s:f.kd.length<=c:=by
  have:=r.kd;rw[N] at this
  rcases dj this with⟨e,_⟩|⟨b1,b0,e,av,_⟩
  ·cases e
  ·injection e with _ _ e3
   rw[e3];exact av
 obtain⟨n,Q⟩:=eX f.kd.length;obtain⟨S,K⟩:=eX f.joined;rw[<-Q] at W s i P;rw[<-K] at X i;obtain⟨b4,b5,b6,b7⟩:=ng i s;have b2:¬c=S:=λe=>absurd (lL i s) (by rw[e];exact yQ _)
 have ab:=hD r;have t:=hD l;have B:=hD E;have ai:=hD T;have Z:=hD H;have aE:=hD a2;have ad:=hD N;have m:=hD (aI Q (aI K (aI i (aI s P))));have am:=hD a6;have a0:=hD x.symm;clear r l E T H a2 Q K i P s a6 x az;unfold cR;go_enter Tryz.func139,Tryz.ntmps139;go_upto_region 1 with fail;rw[a0.O,<-Z.O];clear a0;go_wp2_with fail
 go_quiet (fail)
 obtain⟨D,y⟩:=eX ((j.setCell ⟨fb,10,none⟩ (.pointer (some ⟨g,0,none⟩))).drewN nq);rw[<-y];have z:aa (λb=>b=fb) j D:=by rw[y];exact(af _ _ _ _).drewN nq
 have aw:w.heap.size<=g/\g<j.heap.size:=⟨zl Z.O.symm,B.O.lt⟩
 have a3:g≠fb:=λe=>ae.ne_ B.O t.O.J (by decide) e
 have Y:Hd (aZ D (λb=>F b\/w.heap.size<=b/\b<j.heap.size) fb {L with wp:=.pointer (some ⟨g,0,none⟩)} p {f with waits:=some o}):=hD ((t.O.mo λb G=>.inl G).td z (by rw[y];exact(t.O.J.s_ 10 _).drewN nq) rfl rfl rfl rfl rfl rfl ⟨g,.inr aw,rfl,z.J B.O a3⟩ t.O.rp);have a4:=(Y.O.opens_at (kb:=kb) (c:=c) ad.O)
 have a5:f.os.length=n-S:=by rw[eG,m.O.1,m.O.2.1]
 have R:=kC (some ⟨kb,f.joined*4,none⟩) f.os (c-S) D a4 (by rw[eG];exact lT (Nat.sub_le _ _) (by rw[<-m.O.1];exact lT m.O.2.2.2.2 (by decide)));rw[a5,am.O,<-m.O.2.1] at R;have al:=hD R;have a1:=hD z;clear a4 a5 R z y a9 an W X a3;go_wp2_with fail;refine al.O.mono ?_;rintro e u ⟨rfl,a7⟩;have C:=hD a7;clear a7;go_wp2_with fail;go_ret;have V:ac u (u.alloc (.cells nI 181)):=oR.alloc _;have a8:aa F w u:=((ai.O.mono λ_ e=>e.elim).trans (a1.O.mono λb e=>by rw[e];exact ab.O.ff)).trans (C.O.mono λ_ e=>e.elim);refine⟨u.heap.size,.pointer (some ⟨g,0,none⟩),rfl,a8.size,bN,((Y.O.kp C.O nG).kp V nG).mo λb G=>G.imp id λe=>⟨e.1,lL e.2 (lT a1.O.size (lT C.O.size V.size))⟩,a8.trans (V.mono λ_ e=>e.elim)⟩
end
theorem ml:∀l:List cZ,cC (ed l)=match l.find? (λk=>k.r.e !=0) with|some y=>y.r.e|none=>0
 | []=>rfl
 |a :: l=>by
  have c:=ml l;unfold ed at c ⊢;rw[zc];unfold cC
  by_cases b:a.r.e=0
  ·rw[yb (by simp[b]),c]
   simp[List.find?,b]
  ·rw[yf b]
   have:(a.r.e !=0)=true:=by simp[b]
   simp[List.find?,this]
theorem gM.keep_{S:Nat->Prop}{w w':World}{kb o:Nat}{l:List cZ}(d:gM w (some ⟨kb,o,none⟩) l)(m:aa S w w')(e:¬S kb):gM w' (some ⟨kb,o,none⟩) l:=λi k g=>by
 obtain⟨b,n,a,c⟩:=d i k g;injection a with a;injection a with e1 e2;subst e1;subst e2;exact⟨kb,o,rfl,λj v hv=>(m.I (p:=⟨kb,o+i*4+j,none⟩) (block_lt_of_cell (c j v hv)) e).trans (c j v hv)⟩
theorem jF.wide{c w w':World}{F F':Nat->Prop}{fb:Nat}{L:ix}{p:List ah}{f:Fr}{x:aD}{a:Ending}(d:jF w w' F fb L p f x a)(o:aa (λb=>b=fb) c w)(l:∀b,F b->F' b):jF c w' F' fb L p f x a:=by
 obtain⟨q,v,e,g,i,j,k⟩:=d;exact⟨q,v,e,lT o.size g,i,j.mo l,o.trans k⟩
section
variable {w w':World}{F F':Nat->Prop}{fb:Nat}{L:ix}{p:List ah}{f:Fr}
theorem Cs(o:bI)(ba:∀b,F b->b<w.heap.size)(K:aZ w F fb L p f)(bq:f.os.any (λc=>!c.given)=false)(t:f.joined<f.kd.length)(al:f.kd.length<=16)(bf:cC (ed f.os)≠0):
 Calls Tryz.prog 139 #[.pointer (some ⟨fb,0,none⟩),cR o] w λe w'=>∃c8,jF w w' (λb=>F b\/w.heap.size<=b/\b<w'.heap.size) fb c8 p {f with waits:=none,joined:=f.kd.length} ⟨0,cC (ed f.os)⟩ e:=by
 rcases K.kv_form with⟨_,cg⟩|⟨kb,c,ai,cw,⟨aE,Y⟩,_⟩
 ·rw[cg] at t
  exact absurd t (zZ _)
 obtain⟨s,V⟩:=eX (w.alloc (.cells #[.int .u8 o.k,.int .i64 o.d,.int .i64 o.a,.int .i64 o.b,.int .i64 o.n] 106));have an:ac w s:=by rw[V];exact(aa.refl _ w).alloc _
 have a5:ae s w.heap.size 106 #[.int .u8 o.k,.int .i64 o.d,.int .i64 o.a,.int .i64 o.b,.int .i64 o.n]:=by rw[V];exact bN
 have B:=K.kp an nG;obtain⟨g,a9⟩:=eX w.heap.size;rw[<-a9] at a5;have P:=B.J.I 10;have a6:=B.J.fz 10;simp[cY] at P;have E:=B.J.I 8;have G:=B.J.I 9;simp[cY,ai] at E G;have bz:=hD bf
 have N:f.kd.length<=c:=by
  have:=K.kd;rw[ai] at this
  rcases dj this with⟨e,_⟩|⟨S,cs,e,T,_⟩
  ·cases e
  ·injection e with _ _ e3
   rw[e3];exact T
 obtain⟨n,am⟩:=eX f.kd.length;obtain⟨D,ab⟩:=eX f.joined;rw[<-am] at E N t al;rw[<-ab] at G t;obtain⟨d2,d3,d4,d5⟩:=ng t N;have cv:¬c=D:=λe=>absurd (lL t N) (by rw[e];exact yQ _)
 have cr:=hD K;have Q:=hD B;have a1:=hD a5;have c3:=hD an;have b2:=hD a9;have c0:=hD ba;have H:=hD ai;have j:=hD (aI am (aI ab (aI t (aI N al))));have c6:=hD bq;have b3:=hD V.symm;clear K B a5 an a9 ba am ab t al N bq V Y bf;unfold cR;go_enter Tryz.func139,Tryz.ntmps139;go_upto_region 1 with fail;rw[b3.O,<-b2.O];clear b3;go_wp2_with fail
 go_quiet (fail)
 obtain⟨a3,W⟩:=eX ((s.setCell ⟨fb,10,none⟩ (.pointer (some ⟨g,0,none⟩))).drewN nq);rw[<-W];have Z:aa (λb=>b=fb) s a3:=by rw[W];exact(af _ _ _ _).drewN nq
 have ch:w.heap.size<=g/\g<s.heap.size:=⟨zl b2.O.symm,a1.O.lt⟩
 have bk:g≠fb:=λe=>ae.ne_ a1.O Q.O.J (by decide) e
 have b0:Hd (aZ a3 (λb=>F b\/w.heap.size<=b/\b<s.heap.size) fb {L with wp:=.pointer (some ⟨g,0,none⟩)} p {f with waits:=some o}):=hD ((Q.O.mo λb m=>.inl m).td Z (by rw[W];exact(Q.O.J.s_ 10 _).drewN nq) rfl rfl rfl rfl rfl rfl ⟨g,.inr ch,rfl,Z.J a1.O bk⟩ Q.O.rp);have bp:=(b0.O.opens_at (kb:=kb) (c:=c) H.O)
 have C:f.os.length=n-D:=by rw[eG,j.O.1,j.O.2.1]
 have u:=kC (some ⟨kb,f.joined*4,none⟩) f.os (c-D) a3 bp (by rw[eG];exact lT (Nat.sub_le _ _) (by rw[<-j.O.1];exact lT j.O.2.2.2.2 (by decide)));rw[C,c6.O,<-j.O.2.1] at u;have c4:=hD u;have b4:=hD Z;clear bp C u Z W P a6 E G bk;go_wp2_with fail;refine c4.O.mono ?_;rintro e a4 ⟨rfl,ar⟩;have b5:=hD ar;have l:=b0.O.kp ar nG;have E:=l.J.I 8;have G:=l.J.I 9;have P:=l.J.I 10;have ce:=l.J.fz 9;have a6:=l.J.fz 10;simp[cY,H.O,<-j.O.1] at E G P;have x:=hD l;clear ar l;go_wp2_with fail;obtain⟨R,X⟩:=eX ((a4.setCell ⟨fb,10,none⟩ (.pointer none)).setCell ⟨fb,9,none⟩ (.int .i64 (n:Int)));rw[<-X];have a0:aa (λb=>b=fb) a4 R:=by rw[X];exact aJ (af _ _ _ _)
 have bv:Hd (aZ R (λb=>F b\/w.heap.size<=b/\b<s.heap.size) fb {L with wp:=.pointer none} p {f with waits:=none,joined:=f.kd.length}):=hD (x.O.td a0 (by
  rw[X,j.O.1];exact(x.O.J.s_ 10 _).s_ 9 _) rfl rfl rfl rfl rfl rfl rfl x.O.rp)
 have ci:∃aE,ae a4 kb 260 aE:=by
  rcases x.O.kv_form with⟨e,_⟩|⟨cq,c',e,_,ck,_⟩
  ·have:=H.O
   rw[show L.kv=.slice none 0 0 from e] at this
   cases this
  ·have T:=H.O
   rw[show L.kv=.slice (some ⟨cq,0,none⟩) _ c' from e] at T;injection T with l;injection l with h4;injection h4 with h5;rw[<-h5];exact ck
 obtain⟨aE,Y⟩:=ci;have ad:gM R (some ⟨kb,f.joined*4,none⟩) f.os:=(x.O.opens_at (kb:=kb) (c:=c) H.O).keep_ a0 (λe=>ae.ne_ Y x.O.J (by decide) e);have C:f.os.length=n-D:=by rw[eG,j.O.1,j.O.2.1]
 have u:=lU (some ⟨kb,f.joined*4,none⟩) f.os (c-D) R ad (by rw[eG];exact lT (Nat.sub_le _ _) (by rw[<-j.O.1];exact lT j.O.2.2.2.2 (by decide)))
 have bn:0<=fP (λk=>k.r.e !=0) f.os 0:=by
  have z:=ml f.os
  cases hfd:f.os.find? (λk=>k.r.e !=0) with
  |none=>rw[hfd] at z;exact absurd z bz.O
  |some y=>
   have:f.os.any (λk=>k.r.e !=0)=true:=zT.2 ⟨y,List.mem_of_find?_eq_some hfd,List.find?_some (p:=λk:cZ=>k.r.e !=0) hfd⟩;rw[<-mA _ _ 0] at this;exact yD this
 obtain⟨i,y,a7,S,cf,b8⟩:=tE _ f.os 0 bn;have b9:cC (ed f.os)=y.r.e:=by rw[ml,b8]
 rw[yq] at a7;rw[C,<-j.O.2.1,a7] at u;have bo:i<n-D:=by rw[<-C];exact(gS S).1
 have c5:=hD u;have c2:=hD ad;have c1:=hD S;have bx:=hD b9;have b6:=hD a0;have cB:=dB i;have d0:=cy bo;clear u ad a7 S cf b8 b9 a0 bn C Y X E G P ce a6 bo;refine c5.O.mono ?_;rintro e b7 ⟨rfl,av⟩;have a2:=hD av;obtain⟨b,d1,a8,bb⟩:=c2.O.kp av i y c1.O;injection a8 with a8;injection a8 with z e2;subst z;subst e2;have bt:=bb 3 _ rfl;rw[<-j.O.2.1] at bt;clear av bb;go_wp2_with fail;have aw:aa (λb=>b=fb) w b7:=((((c3.O.mono λ_ e=>e.elim).trans b4.O).trans (b5.O.mono λ_ e=>e.elim)).trans b6.O).trans (a2.O.mono λ_ e=>e.elim);have az:aa (λb=>b=fb) s b7:=(((b4.O).trans (b5.O.mono λ_ e=>e.elim)).trans b6.O).trans (a2.O.mono λ_ e=>e.elim);have b1:=bv.O.kp a2.O nG
 have bm:=lP y.r.e (λb m=>by
  rcases m with m|m
  ·exact lL (c0.O b m) aw.size
  ·exact lL m.2 az.size) b1
 refine bm.mono ?_;intro e d7 k;have⟨q,v,z,cm,cn,cp,br⟩:=k;subst z;have c7:=hD k;have c9:=hD br;have cb:=hD aw;have cd:=hD az;clear k cm cn cp br b1 bm aw az bt;go_wp2_with fail;go_ret;refine⟨{L with wp:=.pointer none},?_⟩;rw[bx.O];exact c7.O.wide cb.O (λb m=>m.imp id λe=>⟨e.1,lL e.2 (lT cd.O.size c9.O.size)⟩)
end
end
end Go.Proofs.YtmdocplknceilaaGreat
