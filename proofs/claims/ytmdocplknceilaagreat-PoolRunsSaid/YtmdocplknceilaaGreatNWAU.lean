import Derived.Test.YtmdocplknceilaaGreatNWAT
import Derived.Deep.Cut
set_option linter.all false
set_option maxRecDepth 100000
set_option maxHeartbeats 1000000
namespace Go.Proofs.YtmdocplknceilaaGreat
section
open Go.RowKit Go.Maps
def aV(n:Nm):Value:=eT n.job n.M
theorem tR{n c:Nm}(f:aV n=aV c):n=c:=by
 obtain⟨a,l⟩:=n;obtain⟨b,k⟩:=c;obtain⟨d,e⟩:=Eb f;simp only at d e;rw[d,e]
noncomputable def dY(f:Nm->Option Value):Value->Option Value:=λkey=>open Classical in if h:∃n:Nm,key=aV n then f (Classical.choose h) else none
theorem gl(f:Nm->Option Value)(n:Nm):dY f (aV n)=f n:=by
 have a:∃b:Nm,aV n=aV b:=⟨n,rfl⟩
 unfold dY;rw[dif_pos a];have:=Classical.choose_spec a;rw[<-tR this]
theorem lu(f:Nm->Option Value)(n:Nm)(x:Option Value):iu (dY f) (aV n) x=dY (ay f n x):=by
 funext key
 by_cases a:key=aV n
 ·subst a
  rw[jV,gl,aA]
 ·rw[kq _ _ a]
  unfold dY;split
  ·rename_i c
   rw[ag];intro b;exact a (by rw[<-b];exact Classical.choose_spec c)
  ·rfl
def dh(n:Nm):Prop:=(Lit.int .u64 n.job).wf=true/\fT n.M
theorem dh.key{n:Nm}(a:dh n):∃b,keyOf Tryz.prog 58 (aV n)=some b:=Cu a.1 (by have:=a.2.1;unfold maxLen;omega)
def bV(n:Nm)(r:aG)(A:Option Addr)(c:Nat):Array Value:=
 #[.int .u64 n.job,.string (sB n.M),.string (sB r.tk.M),.int .i64 r.tk.fn,.slice A r.tk.args.length c,.int .i64 (r.tk.fuel:Int),.int .u8 (r.sa:Int),.int .i64 r.opn,.int .i64 r.res.v,.int .i64 r.res.e,.bool r.fk]
structure bQ(w:World)(F:Nat->Prop)(tb mb:Nat)(most:Int)(rows:Nm->Option aG)(cnt:Nat)(rp:Nm->Nat):Prop where
 ft:F tb
 fm:F mb
 J:ae w tb 198 #[.int .i64 most,.map (some mb)]
 map:aN Tryz.prog w 58 mb (dY λn=>(rows n).map λ_=>.pointer (some ⟨rp n,0,none⟩)) cnt
 row:∀n r,rows n=some r->F (rp n)/\dh n/\r.tk.args.length<=100000/\∃A c,ae w (rp n) 208 (bV n r A c)/\aL w F A r.tk.args
 inj:∀n m,rows n≠none->rows m≠none->n≠m->rp n≠rp m
section
variable {w w':World}{F F':Nat->Prop}{tb mb:Nat}{most:Int}{rows:Nm->Option aG}{cnt:Nat}{rp:Nm->Nat}{n:Nm}{r:aG}
theorem bQ.mo(a:bQ w F tb mb most rows cnt rp)(d:∀b,F b->F' b):bQ w F' tb mb most rows cnt rp:=
 ⟨d _ a.ft,d _ a.fm,a.J,a.map,λn r k=>by
  obtain⟨e,f,g,A,c,i,j⟩:=a.row n r k;exact⟨d _ e,f,g,A,c,i,j.mo d⟩,a.inj⟩
theorem bQ.kp{S:Nat->Prop}(a:bQ w F tb mb most rows cnt rp)(e:aa S w w')(d:∀b,F b->¬S b):bQ w' F tb mb most rows cnt rp:=
 ⟨a.ft,a.fm,e.J a.J (d _ a.ft),a.map.only e (d _ a.fm),λn r l=>by
  obtain⟨f,g,i,A,c,j,k⟩:=a.row n r l;exact⟨f,g,i,A,c,e.J j (d _ f),k.kp e d⟩,a.inj⟩
theorem bQ.look(a:bQ w F tb mb most rows cnt rp)(d:dh n)(W:World)(b:W.heap[mb]?=w.heap[mb]?):
 (Instr.lookup 196 (.map (some mb)) (aV n) false).run Tryz.prog W=.ok (((rows n).map λ_=>Value.pointer (some ⟨rp n,0,none⟩)).getD (.pointer none)) W:=by
 obtain⟨e,c⟩:=d.key;have:=(a.map.heap b).look fF Tryz.underlying196 (z:=.pointer none) (by kernel_rfl) c;rw[gl] at this;exact this
end
section
variable {w w':World}{F F':Nat->Prop}{tb mb:Nat}{most:Int}{rows:Nm->Option aG}{cnt:Nat}{rp:Nm->Nat}{n:Nm}{r:aG}
theorem lZ(g f:Nat)(xs:List Int)(i:bQ w F tb mb most rows cnt rp)(t:dh n)(l:rows n=some r)(u:(r.sa:Int)∈xs)(s:xs.length<=10)(q:ae w g 5 (xs.map (Value.int .u8)).toArray):
 Calls Tryz.prog 103 #[.pointer (some ⟨tb,0,none⟩),aV n,.slice (some ⟨g,0,none⟩) xs.length f] w λe w'=>e=.returned (.tuple #[.pointer (some ⟨rp n,0,none⟩),.int .i64 0])/\ac w w':=by
 obtain⟨y,z,B,A,c,p,C⟩:=i.row n r l;obtain⟨a,b⟩:=eX (w.alloc (.cells #[.int .u64 n.job,.string (sB n.M)] 58));have d:ac w a:=by rw[b];exact(aa.refl _ w).alloc _
 have j:=i.kp d nG;have E:a.cell? ⟨tb,1,none⟩=some (.map (some mb)):=j.J.I 1
 have H:∀k,(Instr.lookup 196 (.map (some mb)) (.agg #[.int .u64 n.job,.string (sB n.M)]) false).run Tryz.prog (a.drewN k)=.ok (.pointer (some ⟨rp n,0,none⟩)) (a.drewN k):=λk=>by
  have:=j.look t (a.drewN k) rfl;rw[l] at this;exact this
 have o:=d.J p nF;have G:a.cell? ⟨rp n,6,none⟩=some (.int .u8 (r.sa:Int)):=o.I 6
 have v:Hd (∀W,ac a W->Calls Tryz.prog 147 #[.slice (some ⟨g,0,none⟩) xs.length f,.int .u8 (r.sa:Int)] W λe w'=>e=.returned (.bool true)/\W=w'):=hD λW D=>by
  have:=tD g xs f (r.sa:Int) W s ((d.trans D).J q nF);rw[yg u] at this;exact this
 have K:∀W:World,(binOp .eql 196 (.map (some mb)) (.map none)).run Tryz.prog W=.ok (.bool false) W:=λ_=>rfl
 have n0:a.cell? ⟨w.heap.size,0,none⟩=some (.int .u64 n.job):=by rw[b];exact(ae.new w _ _).I 0
 have L:a.cell? ⟨w.heap.size,1,none⟩=some (.string (sB n.M)):=by rw[b];exact(ae.new w _ _).I 1
 have m:=hD b.symm;have x:=hD d;generalize (r.sa:Int)=st at*;unfold aV eT;clear i z B p C j o d q u s l t y b;go_enter Tryz.func103,Tryz.ntmps103;go_upto_region 1 with fail;rw[m.O];clear m;go_wp2_with fail
 go_quiet (fail)
 go_wp2_with fail;refine(v.O _ ((aa.refl _ a).drewN nq)).mono ?_;rintro e N ⟨rfl,rfl⟩;go_wp2_with fail
 go_ret2
 exact⟨rfl,x.O.drewN nq⟩
theorem CD(g f:Nat)(xs:List Int)(i:bQ w F tb mb most rows cnt rp)(t:dh n)(l:rows n=some r)(u:¬(r.sa:Int)∈xs)(s:xs.length<=10)(q:ae w g 5 (xs.map (Value.int .u8)).toArray):
 Calls Tryz.prog 103 #[.pointer (some ⟨tb,0,none⟩),aV n,.slice (some ⟨g,0,none⟩) xs.length f] w λe w'=>e=.returned (.tuple #[.pointer none,.int .i64 3])/\ac w w':=by
 obtain⟨y,z,B,A,c,p,C⟩:=i.row n r l;obtain⟨a,b⟩:=eX (w.alloc (.cells #[.int .u64 n.job,.string (sB n.M)] 58));have d:ac w a:=by rw[b];exact(aa.refl _ w).alloc _
 have j:=i.kp d nG;have E:a.cell? ⟨tb,1,none⟩=some (.map (some mb)):=j.J.I 1
 have H:∀k,(Instr.lookup 196 (.map (some mb)) (.agg #[.int .u64 n.job,.string (sB n.M)]) false).run Tryz.prog (a.drewN k)=.ok (.pointer (some ⟨rp n,0,none⟩)) (a.drewN k):=λk=>by
  have:=j.look t (a.drewN k) rfl;rw[l] at this;exact this
 have o:=d.J p nF;have G:a.cell? ⟨rp n,6,none⟩=some (.int .u8 (r.sa:Int)):=o.I 6
 have v:Hd (∀W,ac a W->Calls Tryz.prog 147 #[.slice (some ⟨g,0,none⟩) xs.length f,.int .u8 (r.sa:Int)] W λe w'=>e=.returned (.bool false)/\W=w'):=hD λW D=>by
  have:=tD g xs f (r.sa:Int) W s ((d.trans D).J q nF);rw[yd u] at this;exact this
 have K:∀W:World,(binOp .eql 196 (.map (some mb)) (.map none)).run Tryz.prog W=.ok (.bool false) W:=λ_=>rfl
 have n0:a.cell? ⟨w.heap.size,0,none⟩=some (.int .u64 n.job):=by rw[b];exact(ae.new w _ _).I 0
 have L:a.cell? ⟨w.heap.size,1,none⟩=some (.string (sB n.M)):=by rw[b];exact(ae.new w _ _).I 1
 have m:=hD b.symm;have x:=hD d;generalize (r.sa:Int)=st at*;unfold aV eT;clear i z B p C j o d q u s l t y b;go_enter Tryz.func103,Tryz.ntmps103;go_upto_region 1 with fail;rw[m.O];clear m;go_wp2_with fail
 go_quiet (fail)
 go_wp2_with fail;refine(v.O _ ((aa.refl _ a).drewN nq)).mono ?_;rintro e N ⟨rfl,rfl⟩;go_wp2_with fail
 go_ret2
 exact⟨rfl,x.O.drewN nq⟩
theorem Ed(m:Value)(f:bQ w F tb mb most rows cnt rp)(g:dh n)(i:rows n=none):
 Calls Tryz.prog 103 #[.pointer (some ⟨tb,0,none⟩),aV n,m] w λl w'=>l=.returned (.tuple #[.pointer none,.int .i64 5])/\ac w w':=by
 obtain⟨a,b⟩:=eX (w.alloc (.cells #[.int .u64 n.job,.string (sB n.M)] 58));have d:ac w a:=by rw[b];exact(aa.refl _ w).alloc _
 have c:=f.kp d nG;have o:a.cell? ⟨tb,1,none⟩=some (.map (some mb)):=c.J.I 1
 have p:∀k,(Instr.lookup 196 (.map (some mb)) (.agg #[.int .u64 n.job,.string (sB n.M)]) false).run Tryz.prog (a.drewN k)=.ok (.pointer none) (a.drewN k):=λk=>by
  have:=c.look g (a.drewN k) rfl;rw[i] at this;exact this
 have q:∀W:World,(binOp .eql 196 (.map (some mb)) (.map none)).run Tryz.prog W=.ok (.bool false) W:=λ_=>rfl
 have n0:a.cell? ⟨w.heap.size,0,none⟩=some (.int .u64 n.job):=by rw[b];exact(ae.new w _ _).I 0
 have s:a.cell? ⟨w.heap.size,1,none⟩=some (.string (sB n.M)):=by rw[b];exact(ae.new w _ _).I 1
 have e:=hD b.symm;have j:=hD d;unfold aV eT;clear f c d i g b;go_enter Tryz.func103,Tryz.ntmps103;go_upto_region 1 with fail;rw[e.O];clear e;go_wp2_with fail
 go_quiet (fail)
 go_wp2_with fail
 go_ret2
 exact⟨rfl,j.O.drewN nq⟩
end
theorem aW{fn:Func}{a:Array Value}{w:World}{g k j:Nat}{T:TypeId}{d:TypeDesc}{cs:Array Value}(b:fn.results= #[.cell k T,.tmp j])(c:a.getD k undef=.pointer (some ⟨g,0,none⟩))(f:ae w g T cs)
 (p:Tryz.prog.underlying T=some d) (i:d.isRow=true) (l:(Tryz.prog.info? T).map (·.size)=some cs.size):
 (results fn a).run Tryz.prog w=.ok (.tuple #[.agg cs,a.getD j undef]) w:=by
 have o:=run_loadVar_mid (P:=Tryz.prog) w g 0 T cs.toList d (λj v m=>by rw[f.I,<-zj,yq];exact m) p i (by rw[l];simp);have e:a[k]?.getD undef=.pointer (some ⟨g,0,none⟩):=by simpa using c
 simp[results,b,e,o,Result.andThen,asAddr]
theorem jB{fn:Func}{a:Array Value}{w:World}{g k j i:Nat}{T:TypeId}{d:TypeDesc}{cs:Array Value}(b:fn.results= #[.cell k T,.tmp j,.tmp i])(c:a.getD k undef=.pointer (some ⟨g,0,none⟩))(f:ae w g T cs)
 (q:Tryz.prog.underlying T=some d) (l:d.isRow=true) (m:(Tryz.prog.info? T).map (·.size)=some cs.size):
 (results fn a).run Tryz.prog w=.ok (.tuple #[.agg cs,a.getD j undef,a.getD i undef]) w:=by
 have p:=run_loadVar_mid (P:=Tryz.prog) w g 0 T cs.toList d (λj v o=>by rw[f.I,<-zj,yq];exact o) q l (by rw[m];simp);have e:a[k]?.getD undef=.pointer (some ⟨g,0,none⟩):=by simpa using c
 simp[results,b,e,p,Result.andThen,asAddr]
section
variable {w w':World}{F F':Nat->Prop}{tb mb:Nat}{most:Int}{rows:Nm->Option aG}{cnt:Nat}{rp:Nm->Nat}{n:Nm}{r r':aG}
theorem bQ.turn(f:bQ w F tb mb most rows cnt rp)(m:rows n=some r)(j:aa (λb=>b=rp n) w w')(t:r'.tk=r.tk){A:Option Addr}{c:Nat}(l:ae w (rp n) 208 (bV n r A c))(y:aL w F A r.tk.args)
 (z:ae w' (rp n) 208 (bV n r' A c)):bQ w' F tb mb most (ay rows n (some r')) cnt rp:=by
 have B:(λd=>((ay rows n (some r')) d).map λ_=>Value.pointer (some ⟨rp d,0,none⟩))=λd=>(rows d).map λ_=>Value.pointer (some ⟨rp d,0,none⟩):=by
  funext d
  by_cases e:d=n
  ·subst e;rw[aA,m];rfl
  ·rw[ag _ _ e]
 have s:∀d,ay rows n (some r') d≠none->rows d≠none:=by
  intro d p
  by_cases e:d=n
  ·subst e;rw[m];simp
  ·rw[ag _ _ e] at p;exact p
 refine⟨f.ft,f.fm,j.J f.J ?_,?_,?_,?_⟩
 ·intro e
  exact ae.ne_ f.J l (by decide) e
 ·rw[B]
  exact f.map.only j (λe=>f.map.ne l e.symm)
 ·intro d q k
  by_cases e:d=n
  ·subst e
   rw[aA] at k
   cases k
   obtain⟨g,i,o,_⟩:=f.row d r m;exact⟨g,i,by rw[t];exact o,A,c,z,by rw[t];exact y.by_type j l (by decide)⟩
  ·rw[ag _ _ e] at k
   obtain⟨g,i,o,u,c',v,x⟩:=f.row d q k;exact⟨g,i,o,u,c',j.J v (f.inj d n (by rw[k];simp) (by rw[m];simp) e),x.by_type j l (by decide)⟩
 ·exact λa b g i=>f.inj a b (s a g) (s b i)
end
theorem af(w:World)(g i:Nat)(u:Value):aa (λb=>b=g) w (w.setCell ⟨g,i,none⟩ u):=aa.setCell (S:=λb=>b=g) (aa.refl _ w) (p:=⟨g,i,none⟩) (.inl rfl) u
theorem pq(w:World)(o a:Obj):((w.alloc o).alloc a).heap.size=w.heap.size+1+1:=by simp
theorem jt(w:World)(o:Obj):(w.alloc o).heap.size=w.heap.size+1:=by simp
section
variable {w w':World}{F F':Nat->Prop}{tb mb:Nat}{most:Int}{rows:Nm->Option aG}{cnt:Nat}{rp:Nm->Nat}{n:Nm}{r r':aG}
theorem xH(X:∀b,F b->b<w.heap.size)(q:bQ w F tb mb most rows cnt rp)(a0:dh n)(t:rows n=some r)(k:r.sa=1\/r.sa=4):
 Calls Tryz.prog 136 #[.pointer (some ⟨tb,0,none⟩),aV n] w λa w'=>∃f c',a=.returned (.tuple #[.agg (bO r.tk f c'),.int .i64 0])/\aL w' (λb=>w.heap.size<=b/\b<w'.heap.size) f r.tk.args/\
  bQ w' F tb mb most (ay rows n (some {r with sa:=2})) cnt rp/\aa F w w':=by
 have b9:=q.J.lt;obtain⟨D,j⟩:=eX (((w.alloc (.cells #[.int .u64 n.job,.string (sB n.M)] 58)).alloc (.cells #[.string ⟨#[]⟩,.int .i64 0,.slice none 0 0,.int .i64 0] 30)).alloc (.cells #[.int .u8 1,.int .u8 4] 5));have m:ac w D:=by rw[j];exact(((aa.refl _ w).alloc _).alloc _).alloc _
 have E:ae D (w.heap.size+1) 30 #[.string ⟨#[]⟩,.int .i64 0,.slice none 0 0,.int .i64 0]:=by
  rw[j,<-jt w (.cells #[.int .u64 n.job,.string (sB n.M)] 58)];exact bN.alloc _
 have W:ae D (w.heap.size+1+1) 5 (([1,4]:List Int).map (Value.int .u8)).toArray:=by
  rw[j,<-pq w (.cells #[.int .u64 n.job,.string (sB n.M)] 58) (.cells #[.string ⟨#[]⟩,.int .i64 0,.slice none 0 0,.int .i64 0] 30)];exact bN
 have z:=hD (lZ (w.heap.size+1+1) 2 [1,4] (q.kp m λ_ _ a=>a) a0 t (by rcases k with k|k<;>simp[k]) (by decide) W);have bb:=m.size;obtain⟨g,s⟩:=eX w.heap.size;rw[<-s] at E z;have y:=hD E;have R:=hD m;have V:=hD j.symm;have T:=hD (q.kp m λ_ _ a=>a);have Q:=hD s;obtain⟨a2,ar,a3,A,c,a4,a5⟩:=T.O.row n r t;have i:=hD (aI a2 (aI a3 (aI a4 a5)));have ab:=hD t;have a9:=hD X;clear q E W m a2 ar a3 a4 a5 j s a0 t k X;unfold aV eT at z ⊢;go_enter Tryz.func136,Tryz.ntmps136;go_wp2_with fail;rw[V.O,<-Q.O];refine z.O.mono ?_;rintro a a6 ⟨rfl,o⟩;have B:=hD o;have d:=o.J i.O.2.2.1 nF;have av:=d.I 2;have aw:=d.I 3;have a7:=d.I 4;have az:=d.I 5;have aE:=d.I 6;have b4:=d.fz 6;simp[bV] at av aw a7 az aE;obtain⟨l,K⟩:=eX r.tk.args.length;have G:=i.O.2.2.2.kp o nG;obtain⟨N,u⟩:=eX (a6.setCell ⟨rp n,6,none⟩ (.int .u8 2));have v:aa (λb=>b=rp n) a6 N:=by rw[u];exact af _ _ _ _
 have Z:ae N (rp n) 208 (bV n {r with sa:=2} A c):=by rw[u];exact d.s_ 6 _
 have ad:=hD ((T.O.kp o λ_ _ a=>a).turn ab.O v (r':={r with sa:=2}) rfl d G Z);have S:=hD (rG r.tk A c F N (G.by_type v d (by decide)) i.O.2.1);have C:=hD v;have Y:=hD u.symm;rw[<-K] at a7;have H:=hD K;clear d G v Z u o K V;go_wp2_with fail;rw[Y.O];unfold bO at S;rw[H.O];refine S.O.mono ?_;rintro a P ⟨f,c',rfl,a1,L⟩;have ai:=hD a1;have p:=hD L;have an:g+1≠rp n:=λa=>ae.ne_ y.O i.O.2.2.1 (by decide) a
 have e:=L.J (C.O.J (B.O.J y.O nF) an) nF;have b0:=e.I 0;have b1:=e.I 1;have b2:=e.I 2;have b3:=e.I 3;have b5:=e.fz 0;have b6:=e.fz 1;have b7:=e.fz 2;have b8:=e.fz 3;have a8:=hD e;simp at b0 b1 b2 b3;clear a1 L e Y;rw[<-H.O];go_wp2_with fail
 have al:ae ((((P.setCell ⟨g+1,0,none⟩ (.string (sB r.tk.M))).setCell ⟨g+1,1,none⟩ (.int .i64 r.tk.fn)).setCell ⟨g+1,2,none⟩ (.slice f l c')).setCell ⟨g+1,3,none⟩ (.int .i64 (r.tk.fuel:Int))) (g+1) 30 #[.string (sB r.tk.M),.int .i64 r.tk.fn,.slice f l c',.int .i64 (r.tk.fuel:Int)]:=
  (((a8.O.s_ 0 _).s_ 1 _).s_ 2 _).s_ 3 _
 have x:aa (λb=>b=g+1) P ((((P.setCell ⟨g+1,0,none⟩ (.string (sB r.tk.M))).setCell ⟨g+1,1,none⟩ (.int .i64 r.tk.fn)).setCell ⟨g+1,2,none⟩ (.slice f l c')).setCell ⟨g+1,3,none⟩ (.int .i64 (r.tk.fuel:Int))):=
  (((af _ _ _ _).trans (af _ _ _ _)).trans (af _ _ _ _)).trans (af _ _ _ _)
 have s:=Q.O;have bf:=R.O.size;have bk:=B.O.size;have bm:=C.O.size;have bn:=p.O.size;have bo:=x.size;have ba:=y.O.lt;refine bodyPost_ret (aW Tryz.results136 rfl al Tryz.underlying30 rfl (by kernel_rfl)) rfl ?_;have am:=a9.O;refine⟨f,c',by rw[H.O];rfl,(ai.O.kp x (λb d=>by have:=p.O.size;omega)).mo (λb d=>by omega),(ad.O.kp p.O nG).kp x (λb d a=>?_),?_⟩
 ·have:=am b d
  omega
 ·exact((((R.O.mono λ_ a=>a.elim).trans (B.O.mono λ_ a=>a.elim)).trans (C.O.mono λb a=>by rw[a];exact i.O.1)).trans (p.O.mono λ_ a=>a.elim)).trans' x (λb a=>.inr (by omega))
theorem Ff(g c:Nat)(xs:List Int)(e:bQ w F tb mb most rows cnt rp)(f:dh n)(k:∀r,rows n=some r->¬(r.sa:Int)∈xs)(j:xs.length<=10)(i:ae w g 5 (xs.map (Value.int .u8)).toArray):
 Calls Tryz.prog 103 #[.pointer (some ⟨tb,0,none⟩),aV n,.slice (some ⟨g,0,none⟩) xs.length c] w λa w'=>∃d,a=.returned (.tuple #[.pointer none,.int .i64 d])/\(d !=0)=true/\ac w w':=by
 cases hx:rows n with
 |none=>
  refine(Ed _ e f hx).mono ?_;rintro a l ⟨rfl,b⟩;exact⟨5,rfl,rfl,b⟩
 |some r=>
  refine(CD g c xs e f hx (k r hx) j i).mono ?_;rintro a l ⟨rfl,b⟩;exact⟨3,rfl,rfl,b⟩
theorem BM(t:bQ w F tb mb most rows cnt rp)(u:dh n)(v:∀r,rows n=some r->r.sa≠1/\r.sa≠4):
 Calls Tryz.prog 136 #[.pointer (some ⟨tb,0,none⟩),aV n] w λc w'=>∃e,c=.returned (.tuple #[.agg #[.string ⟨#[]⟩,.int .i64 0,.slice none 0 0,.int .i64 0],.int .i64 e])/\(e !=0)=true/\ac w w':=by
 obtain⟨j,d⟩:=eX (((w.alloc (.cells #[.int .u64 n.job,.string (sB n.M)] 58)).alloc (.cells #[.string ⟨#[]⟩,.int .i64 0,.slice none 0 0,.int .i64 0] 30)).alloc (.cells #[.int .u8 1,.int .u8 4] 5));have l:ac w j:=by rw[d];exact(((aa.refl _ w).alloc _).alloc _).alloc _
 have k:ae j (w.heap.size+1) 30 #[.string ⟨#[]⟩,.int .i64 0,.slice none 0 0,.int .i64 0]:=by
  rw[d,<-jt w (.cells #[.int .u64 n.job,.string (sB n.M)] 58)];exact bN.alloc _
 have s:ae j (w.heap.size+1+1) 5 (([1,4]:List Int).map (Value.int .u8)).toArray:=by
  rw[d,<-pq w (.cells #[.int .u64 n.job,.string (sB n.M)] 58) (.cells #[.string ⟨#[]⟩,.int .i64 0,.slice none 0 0,.int .i64 0] 30)];exact bN
 have i:=hD (Ff (w.heap.size+1+1) 2 [1,4] (t.kp l λ_ _ c=>c) u (λr E=>by have:=v r E;simp only[yG,List.not_mem_nil,or_false];omega) (by decide) s);obtain⟨g,f⟩:=eX w.heap.size;rw[<-f] at k i;have y:=hD k;have A:=hD l;have q:=hD d.symm;have p:=hD f;clear t k s l d f u v;unfold aV eT at i ⊢;go_enter Tryz.func136,Tryz.ntmps136;go_wp2_with fail;rw[q.O,<-p.O];refine i.O.mono ?_;rintro c o ⟨e,rfl,D,m⟩;have B:=hD m;have z:=hD D;have a:=m.J y.O nF;have H:=a.I 0;have K:=a.I 1;have L:=a.I 2;have N:=a.I 3;have P:=a.fz 0;have Q:=a.fz 1;have R:=a.fz 2;have S:=a.fz 3;have x:=hD a;simp at H K L N;clear m a q;go_wp2_with fail
 have C:ae ((((o.setCell ⟨g+1,0,none⟩ (.string ⟨#[]⟩)).setCell ⟨g+1,1,none⟩ (.int .i64 0)).setCell ⟨g+1,2,none⟩ (.slice none 0 0)).setCell ⟨g+1,3,none⟩ (.int .i64 0)) (g+1) 30 #[.string ⟨#[]⟩,.int .i64 0,.slice none 0 0,.int .i64 0]:=
  (((x.O.s_ 0 _).s_ 1 _).s_ 2 _).s_ 3 _
 have G:aa (λb=>b=g+1) o ((((o.setCell ⟨g+1,0,none⟩ (.string ⟨#[]⟩)).setCell ⟨g+1,1,none⟩ (.int .i64 0)).setCell ⟨g+1,2,none⟩ (.slice none 0 0)).setCell ⟨g+1,3,none⟩ (.int .i64 0)):=
  (((af _ _ _ _).trans (af _ _ _ _)).trans (af _ _ _ _)).trans (af _ _ _ _)
 have f:=p.O;refine bodyPost_ret (aW Tryz.results136 rfl C Tryz.underlying30 rfl (by kernel_rfl)) rfl ?_;exact⟨e,rfl,z.O,(A.O.trans B.O).trans' G (λb c=>.inr (by omega))⟩
theorem Et(f:bQ w F tb mb most rows cnt rp)(p:dh n)(j:rows n=some r)(s:r.sa=2)(q:r.opn=0):
 Calls Tryz.prog 88 #[.pointer (some ⟨tb,0,none⟩),aV n] w λa w'=>a=.returned (.tuple #[.bool false,.int .i64 0])/\ac w w':=by
 obtain⟨m,b⟩:=eX ((w.alloc (.cells #[.int .u64 n.job,.string (sB n.M)] 58)).alloc (.cells #[.int .u8 2] 5));have d:ac w m:=by rw[b];exact((aa.refl _ w).alloc _).alloc _
 have o:ae m (w.heap.size+1) 5 (([2]:List Int).map (Value.int .u8)).toArray:=by
  rw[b,<-jt w (.cells #[.int .u64 n.job,.string (sB n.M)] 58)];exact bN
 have e:=hD (lZ (w.heap.size+1) 1 [2] (f.kp d λ_ _ a=>a) p j (by simp[s]) (by decide) o);obtain⟨g,i⟩:=eX w.heap.size;rw[<-i] at e;have v:=hD d;have l:=hD b.symm;have x:=hD (f.kp d λ_ _ a=>a);have u:=hD i;obtain⟨B,C,D,A,c,t,E⟩:=x.O.row n r j;have y:=hD t;clear f o d B C D t E b i p j s;unfold aV eT at e ⊢;go_enter Tryz.func88,Tryz.ntmps88;go_wp2_with fail;rw[l.O,<-u.O];refine e.O.mono ?_;rintro a H ⟨rfl,k⟩;have z:=hD k;have G:=(k.J y.O nF).I 7;simp[bV,q] at G;clear k q l;go_wp2_with fail
 go_ret2
 exact⟨rfl,v.O.trans z.O⟩
theorem Dl(T:∀b,F b->b<w.heap.size)(o:bQ w F tb mb most rows cnt rp)(z:dh n)(i:rows n=some r)(B:r.sa=2)(a0:(r.opn==0)=false):
 Calls Tryz.prog 88 #[.pointer (some ⟨tb,0,none⟩),aV n] w λa w'=>a=.returned (.tuple #[.bool true,.int .i64 0])/\bQ w' F tb mb most (ay rows n (some {r with sa:=3})) cnt rp/\aa F w w':=by
 obtain⟨u,f⟩:=eX ((w.alloc (.cells #[.int .u64 n.job,.string (sB n.M)] 58)).alloc (.cells #[.int .u8 2] 5));have k:ac w u:=by rw[f];exact((aa.refl _ w).alloc _).alloc _
 have v:ae u (w.heap.size+1) 5 (([2]:List Int).map (Value.int .u8)).toArray:=by
  rw[f,<-jt w (.cells #[.int .u64 n.job,.string (sB n.M)] 58)];exact bN
 have l:=hD (lZ (w.heap.size+1) 1 [2] (o.kp k λ_ _ a=>a) z i (by simp[B]) (by decide) v);obtain⟨g,p⟩:=eX w.heap.size;rw[<-p] at l;have N:=hD k;have t:=hD f.symm;have s:=hD (o.kp k λ_ _ a=>a);have L:=hD p;obtain⟨C,W,D,A,c,E,G⟩:=s.O.row n r i;have m:=hD (aI C (aI D (aI E G)));have P:=hD i;clear o v k C W D E G f p z i B T;unfold aV eT at l ⊢;go_enter Tryz.func88,Tryz.ntmps88;go_wp2_with fail;rw[t.O,<-L.O];refine l.O.mono ?_;rintro a H ⟨rfl,e⟩;have R:=hD e;have d:=e.J m.O.2.2.1 nF;have X:=d.I 6;have Y:=d.I 7;have Z:=d.fz 6;simp[bV] at X Y;have x:=m.O.2.2.2.kp e nG;obtain⟨K,j⟩:=eX (H.setCell ⟨rp n,6,none⟩ (.int .u8 3));have q:aa (λb=>b=rp n) H K:=by rw[j];exact af _ _ _ _
 have y:ae K (rp n) 208 (bV n {r with sa:=3} A c):=by rw[j];exact d.s_ 6 _
 have Q:=hD ((s.O.kp e λ_ _ a=>a).turn P.O q (r':={r with sa:=3}) rfl d x y);have S:=hD q;have V:=hD j.symm;clear d x q y j e t;go_wp2_with fail;rw[V.O]
 go_ret2
 exact⟨rfl,Q.O,((N.O.mono λ_ a=>a.elim).trans (R.O.mono λ_ a=>a.elim)).trans (S.O.mono λb a=>by rw[a];exact m.O.1)⟩
end
def jf(n:Nm)(r:aG)(A:Option Addr)(c:Nat):Array Value:=
 #[.int .u64 n.job,.string (sB n.M),.string (sB r.tk.M),.int .i64 r.tk.fn,.slice A r.tk.args.length c,.int .i64 (r.tk.fuel:Int),.int .u8 (r.sa:Int),.int .i64 r.opn,.int .i64 r.res.v,.int .i64 r.res.e]
def jg:Array Value:=#[.int .u64 0,.string ⟨#[]⟩,.string ⟨#[]⟩,.int .i64 0,.slice none 0 0,.int .i64 0,.int .u8 0,.int .i64 0,.int .i64 0,.int .i64 0]
theorem ot{w w':World}{g a i:Nat}{u:Value}(c:aa (λb=>b=g\/b=a) w w'):aa (λb=>b=g\/b=a) w (w'.setCell ⟨g,i,none⟩ u):=c.setCell (p:=⟨g,i,none⟩) (.inl (.inl rfl)) u
theorem AR{w w':World}{g a i:Nat}{u:Value}(c:aa (λb=>b=g\/b=a) w w'):aa (λb=>b=g\/b=a) w (w'.setCell ⟨a,i,none⟩ u):=c.setCell (p:=⟨a,i,none⟩) (.inl (.inr rfl)) u
theorem sJ{w:World}{g:Nat}{T:TypeId}{a b c d e f i j l m v0 v1 v2 v3 v4 v5 v6 v7 v8 v9:Value}(o:ae w g T #[a,b,c,d,e,f,i,j,l,m]):ae ((((((((((w.setCell ⟨g,0,none⟩ v0).setCell ⟨g,1,none⟩ v1).setCell ⟨g,2,none⟩ v2).setCell ⟨g,3,none⟩ v3).setCell ⟨g,4,none⟩ v4).setCell ⟨g,5,none⟩ v5).setCell ⟨g,6,none⟩ v6).setCell ⟨g,7,none⟩ v7).setCell ⟨g,8,none⟩ v8).setCell ⟨g,9,none⟩ v9) g T #[v0,v1,v2,v3,v4,v5,v6,v7,v8,v9]:=by
 have k:=((((((((((o.s_ 0 v0).s_ 1 v1).s_ 2 v2).s_ 3 v3).s_ 4 v4).s_ 5 v5).s_ 6 v6).s_ 7 v7).s_ 8 v8).s_ 9 v9)
 simpa using k
theorem uB(q:Nat)(n:Nm)(r:aG)(A:Option Addr)(c:Nat)(F:Nat->Prop)(w:World)(hb:ae w q 208 (bV n r A c))(X:aL w F A r.tk.args)(Z:r.tk.args.length<=100000):
 Calls Tryz.prog 98 #[.pointer (some ⟨q,0,none⟩)] w λj w'=>∃f c',j=.returned (.agg (jf n r f c'))/\aL w' (λb=>w.heap.size<=b/\b<w'.heap.size) f r.tk.args/\ac w w':=by
 obtain⟨i,t⟩:=eX (w.alloc (.cells jg 60));have z:ac w i:=by rw[t];exact(aa.refl _ w).alloc _
 have a:ae i w.heap.size 60 jg:=by rw[t];exact bN
 have e:=z.J hb nF;have Y:=X.kp z nG;obtain⟨g,u⟩:=eX w.heap.size;obtain⟨l,H⟩:=eX r.tk.args.length;rw[<-u] at a;have bx:=hD e;have an:=hD Y;have s:=hD H;have ar:=hD Z;have C:=hD a;have P:=hD z;have N:=hD u;have a1:=e.I 0;have a2:=e.I 1;have a3:=e.I 2;have a4:=e.I 3;have a5:=e.I 4;have a6:=e.I 5;have a7:=e.I 6;have a8:=e.I 7;have a9:=e.I 8;have ab:=e.I 9;simp[bV,<-H] at a1 a2 a3 a4 a5 a6 a7 a8 a9 ab;unfold jg at t;have R:=hD t.symm;clear hb X e Y t z a H Z u;go_enter Tryz.func98,Tryz.ntmps98;go_upto_region 1 with fail;rw[R.O,<-N.O];clear R;go_wp2_with fail;obtain⟨G,m⟩:=eX (i.alloc (.cells (jf n r A c) 60));have K:ac i G:=by rw[m];exact(aa.refl _ i).alloc _
 have d:ae G i.heap.size 60 (jf n r A c):=by rw[m];exact bN
 have Q:=hD (rG r.tk A c F G (an.O.kp K λ_ _ j=>j) ar.O);obtain⟨k,x⟩:=eX i.heap.size;rw[<-x] at d;have L:=hD d;have E:=hD K;have D:=hD x;unfold jf at m;rw[<-s.O] at m;have V:=hD m.symm;rw[V.O,<-D.O];clear m K d x a1 a2 a3 a4 a5 a6 a7 a8 a9 ab;unfold bO at Q;rw[s.O];refine Q.O.mono ?_;rintro j b3 ⟨f,c',rfl,a0,B⟩;rw[<-s.O];have y:g≠k:=by have cn:=C.O.lt;have cp:=D.O;omega
 have a:=B.J (E.O.J C.O nF) nF;have d:=B.J L.O nF;have av:=hD a0;have W:=hD B;have b4:=d.I 0;have b5:=d.I 1;have b6:=d.I 2;have b7:=d.I 3;have b8:=d.I 4;have b9:=d.I 5;have ba:=d.I 6;have bb:=d.I 7;have bf:=d.I 8;have bk:=d.I 9;simp[jf,<-s.O] at b4 b5 b6 b7 b8 b9 ba bb bf bk;have bz:=d.fz 0;have c0:=d.fz 1;have c1:=d.fz 2;have c2:=d.fz 3;have c3:=d.fz 4;have c4:=d.fz 5;have c5:=d.fz 6;have c6:=d.fz 7;have c7:=d.fz 8;have c8:=d.fz 9;have bm:=a.I 0;have ad:=a.I 1;have ai:=a.I 2;have al:=a.I 3;have bn:=a.I 4;have bo:=a.I 5;have bp:=a.I 6;have bq:=a.I 7;have br:=a.I 8;have bt:=a.I 9;simp[jg] at bm ad ai al bn bo bp bq br bt;have c9:=a.fz 0;have cb:=a.fz 1;have cd:=a.fz 2;have ce:=a.fz 3;have cf:=a.fz 4;have cg:=a.fz 5;have ch:=a.fz 6;have ci:=a.fz 7;have ck:=a.fz 8;have cm:=a.fz 9;have am:=hD a;have bv:=hD d;clear V a d a0 B;go_wp2_with fail;have u:=N.O;have x:=D.O;have ad:=P.O.size;have ai:=E.O.size;have al:=W.O.size;have cq:=C.O.lt;refine bodyPost_ret (bX Tryz.results98 rfl (cs:=jf n r f c') ?hb Tryz.underlying60 rfl (by kernel_rfl)) rfl ?_
 case hb=>
  unfold jf;rw[<-s.O];have aw:ae b3 g 60 #[.int .u64 0,.string ⟨#[]⟩,.string ⟨#[]⟩,.int .i64 0,.slice none 0 0,.int .i64 0,.int .u8 0,.int .i64 0,.int .i64 0,.int .i64 0]:=am.O;have az:=aw.far (p:=⟨k,2,none⟩) y (.string (sB r.tk.M));have aE:=az.far (p:=⟨k,3,none⟩) y (.int .i64 r.tk.fn);have b0:=aE.far (p:=⟨k,4,none⟩) y (.slice f l c');have b1:=b0.far (p:=⟨k,5,none⟩) y (.int .i64 (r.tk.fuel:Int));have b2:=sJ (v0:=.int .u64 n.job) (v1:=.string (sB n.M)) (v2:=.string (sB r.tk.M)) (v3:=.int .i64 r.tk.fn) (v4:=.slice f l c') (v5:=.int .i64 (r.tk.fuel:Int)) (v6:=.int .u8 (r.sa:Int)) (v7:=.int .i64 r.opn) (v8:=.int .i64 r.res.v) (v9:=.int .i64 r.res.e) b1;exact b2
 refine⟨f,c',rfl,(av.O.kp ?o (λb hb j=>?_)).mo (λb hb=>?_),((P.O.trans E.O).trans W.O).trans' (T:=λb=>b=g\/b=k) ?o (λb j=>.inr (by omega))⟩
 case o=>repeat (first|with_reducible apply ot|with_reducible apply AR|with_reducible exact oR)
 ·have:=L.O.lt
  have:=hb.1
  rcases j with rfl|rfl<;>omega
 ·refine⟨by have:=hb.1;omega,lL hb.2 (aa.size (S:=λb=>b=g\/b=k) ?_)⟩
  repeat (first|with_reducible apply ot|with_reducible apply AR|with_reducible exact oR)
end
end Go.Proofs.YtmdocplknceilaaGreat
