import Derived.Test.YtmdocplknceilaaGreatRWAP
import Derived.Deep.Cut
set_option linter.all false
set_option maxRecDepth 100000
set_option maxHeartbeats 1000000
namespace Go.Proofs.YtmdocplknceilaaGreat
section
open Go.RowKit Go.Maps
def aW(n:Nm):Value:=fe n.job n.M
theorem ul{n c:Nm}(i:aW n=aW c):n=c:=by
 obtain⟨a,l⟩:=n;obtain⟨b,k⟩:=c;obtain⟨d,f⟩:=EM i;simp only at d f;rw[d,f]
noncomputable def eE(f:Nm->Option Value):Value->Option Value:=λkey=>open Classical in if h:∃n:Nm,key=aW n then f (Classical.choose h) else none
theorem iP(f:Nm->Option Value)(n:Nm):eE f (aW n)=f n:=by
 have a:∃c:Nm,aW n=aW c:=⟨n,rfl⟩
 unfold eE;rw[dif_pos a];have:=Classical.choose_spec a;rw[<-ul this]
theorem mQ(f:Nm->Option Value)(n:Nm)(x:Option Value):iW (eE f) (aW n) x=eE (ax f n x):=by
 funext key
 by_cases e:key=aW n
 ·subst e
  rw[kY,iP,ay]
 ·rw[kx _ _ e]
  unfold eE;split
  ·rename_i c
   rw[ag];intro a;exact e (by rw[<-a];exact Classical.choose_spec c)
  ·rfl
def dE(n:Nm):Prop:=(Lit.int .u64 n.job).wf=true/\fU n.M
theorem dE.key{n:Nm}(a:dE n):∃kl,keyOf Tryz.prog 58 (aW n)=some kl:=C4 a.1 (by have:=a.2.1;unfold maxLen;omega)
def bW(n:Nm)(r:aG)(A:Option Addr)(c:Nat):Array Value:=
 #[.int .u64 n.job,.string (sB n.M),.string (sB r.tk.M),.int .i64 r.tk.fn,.slice A r.tk.args.length c,.int .i64 (r.tk.fuel:Int),.int .u8 (r.sa:Int),.int .i64 r.opn,.int .i64 r.res.v,.int .i64 r.res.e,.bool r.fk]
structure bS(w:World)(F:Nat->Prop)(tb mb:Nat)(most:Int)(rows:Nm->Option aG)(cnt:Nat)(rp:Nm->Nat):Prop where
 ft:F tb
 fm:F mb
 J:ae w tb 198 #[.int .i64 most,.map (some mb)]
 map:aS Tryz.prog w 58 mb (eE λn=>(rows n).map λ_=>.pointer (some ⟨rp n,0,none⟩)) cnt
 row:∀n r,rows n=some r->F (rp n)/\dE n/\r.tk.args.length<=100000/\∃A c,ae w (rp n) 208 (bW n r A c)/\aJ w F A r.tk.args
 inj:∀n m,rows n≠none->rows m≠none->n≠m->rp n≠rp m
section
variable {w w':World}{F F':Nat->Prop}{tb mb:Nat}{most:Int}{rows:Nm->Option aG}{cnt:Nat}{rp:Nm->Nat}{n:Nm}{r:aG}
theorem bS.mo(a:bS w F tb mb most rows cnt rp)(d:∀b,F b->F' b):bS w F' tb mb most rows cnt rp:=
 ⟨d _ a.ft,d _ a.fm,a.J,a.map,λn r o=>by
  obtain⟨f,i,j,A,c,l,m⟩:=a.row n r o;exact⟨d _ f,i,j,A,c,l,m.mo d⟩,a.inj⟩
theorem bS.kp{S:Nat->Prop}(a:bS w F tb mb most rows cnt rp)(f:aa S w w')(d:∀b,F b->¬S b):bS w' F tb mb most rows cnt rp:=
 ⟨a.ft,a.fm,f.J a.J (d _ a.ft),a.map.only f (d _ a.fm),λn r p=>by
  obtain⟨i,j,l,A,c,m,o⟩:=a.row n r p;exact⟨i,j,l,A,c,f.J m (d _ i),o.kp f d⟩,a.inj⟩
theorem bS.look(a:bS w F tb mb most rows cnt rp)(f:dE n)(W:World)(c:W.heap[mb]?=w.heap[mb]?):
 (Instr.lookup 196 (.map (some mb)) (aW n) false).run Tryz.prog W=.ok (((rows n).map λ_=>Value.pointer (some ⟨rp n,0,none⟩)).getD (.pointer none)) W:=by
 obtain⟨kl,d⟩:=f.key;have:=(a.map.heap c).look ix Tryz.underlying196 (z:=.pointer none) (by kernel_rfl) d;rw[iP] at this;exact this
end
section
variable {w w':World}{F F':Nat->Prop}{tb mb:Nat}{most:Int}{rows:Nm->Option aG}{cnt:Nat}{rp:Nm->Nat}{n:Nm}{r:aG}
theorem mj(g i:Nat)(xs:List Int)(j:bS w F tb mb most rows cnt rp)(x:dE n)(m:rows n=some r)(y:(r.sa:Int)∈xs)(u:xs.length<=10)(s:ae w g 5 (xs.map (Value.int .u8)).toArray):
 Calls Tryz.prog 103 #[.pointer (some ⟨tb,0,none⟩),aW n,.slice (some ⟨g,0,none⟩) xs.length i] w λe w'=>e=.returned (.tuple #[.pointer (some ⟨rp n,0,none⟩),.int .i64 0])/\ac w w':=by
 obtain⟨D,E,G,A,c,q,H⟩:=j.row n r m;obtain⟨a,d⟩:=eX (w.alloc (.cells #[.int .u64 n.job,.string (sB n.M)] 58));have f:ac w a:=by rw[d];exact(aa.refl _ w).alloc _
 have l:=j.kp f nG;have L:a.cell? ⟨tb,1,none⟩=some (.map (some mb)):=l.J.I 1
 have Q:∀k,(Instr.lookup 196 (.map (some mb)) (.agg #[.int .u64 n.job,.string (sB n.M)]) false).run Tryz.prog (a.drewN k)=.ok (.pointer (some ⟨rp n,0,none⟩)) (a.drewN k):=λk=>by
  have:=l.look x (a.drewN k) rfl;rw[m] at this;exact this
 have p:=f.J q nF;have N:a.cell? ⟨rp n,6,none⟩=some (.int .u8 (r.sa:Int)):=p.I 6
 have B:Hd (∀W,ac a W->Calls Tryz.prog 147 #[.slice (some ⟨g,0,none⟩) xs.length i,.int .u8 (r.sa:Int)] W λe w'=>e=.returned (.bool true)/\W=w'):=hD λW K=>by
  have:=tV g xs i (r.sa:Int) W u ((f.trans K).J s nF);rw[yg y] at this;exact this
 have R:∀W:World,(binOp .eql 196 (.map (some mb)) (.map none)).run Tryz.prog W=.ok (.bool false) W:=λ_=>rfl
 have S:a.cell? ⟨w.heap.size,0,none⟩=some (.int .u64 n.job):=by rw[d];exact(ae.new w _ _).I 0
 have T:a.cell? ⟨w.heap.size,1,none⟩=some (.string (sB n.M)):=by rw[d];exact(ae.new w _ _).I 1
 have o:=hD d.symm;have C:=hD f;generalize (r.sa:Int)=st at*;unfold aW fe;clear j E G q H l p f s y u m x D d;go_enter Tryz.func103,Tryz.ntmps103;go_upto_region 1 with fail;rw[o.O];clear o;go_wp2_with fail
 go_quiet (fail)
 go_wp2_with fail;refine(B.O _ ((aa.refl _ a).drewN nq)).mono ?_;rintro e V ⟨rfl,rfl⟩;go_wp2_with fail
 go_ret2
 exact⟨rfl,C.O.drewN nq⟩
theorem Dc(g i:Nat)(xs:List Int)(j:bS w F tb mb most rows cnt rp)(x:dE n)(m:rows n=some r)(y:¬(r.sa:Int)∈xs)(u:xs.length<=10)(s:ae w g 5 (xs.map (Value.int .u8)).toArray):
 Calls Tryz.prog 103 #[.pointer (some ⟨tb,0,none⟩),aW n,.slice (some ⟨g,0,none⟩) xs.length i] w λe w'=>e=.returned (.tuple #[.pointer none,.int .i64 3])/\ac w w':=by
 obtain⟨D,E,G,A,c,q,H⟩:=j.row n r m;obtain⟨a,d⟩:=eX (w.alloc (.cells #[.int .u64 n.job,.string (sB n.M)] 58));have f:ac w a:=by rw[d];exact(aa.refl _ w).alloc _
 have l:=j.kp f nG;have L:a.cell? ⟨tb,1,none⟩=some (.map (some mb)):=l.J.I 1
 have Q:∀k,(Instr.lookup 196 (.map (some mb)) (.agg #[.int .u64 n.job,.string (sB n.M)]) false).run Tryz.prog (a.drewN k)=.ok (.pointer (some ⟨rp n,0,none⟩)) (a.drewN k):=λk=>by
  have:=l.look x (a.drewN k) rfl;rw[m] at this;exact this
 have p:=f.J q nF;have N:a.cell? ⟨rp n,6,none⟩=some (.int .u8 (r.sa:Int)):=p.I 6
 have B:Hd (∀W,ac a W->Calls Tryz.prog 147 #[.slice (some ⟨g,0,none⟩) xs.length i,.int .u8 (r.sa:Int)] W λe w'=>e=.returned (.bool false)/\W=w'):=hD λW K=>by
  have:=tV g xs i (r.sa:Int) W u ((f.trans K).J s nF);rw[yd y] at this;exact this
 have R:∀W:World,(binOp .eql 196 (.map (some mb)) (.map none)).run Tryz.prog W=.ok (.bool false) W:=λ_=>rfl
 have S:a.cell? ⟨w.heap.size,0,none⟩=some (.int .u64 n.job):=by rw[d];exact(ae.new w _ _).I 0
 have T:a.cell? ⟨w.heap.size,1,none⟩=some (.string (sB n.M)):=by rw[d];exact(ae.new w _ _).I 1
 have o:=hD d.symm;have C:=hD f;generalize (r.sa:Int)=st at*;unfold aW fe;clear j E G q H l p f s y u m x D d;go_enter Tryz.func103,Tryz.ntmps103;go_upto_region 1 with fail;rw[o.O];clear o;go_wp2_with fail
 go_quiet (fail)
 go_wp2_with fail;refine(B.O _ ((aa.refl _ a).drewN nq)).mono ?_;rintro e V ⟨rfl,rfl⟩;go_wp2_with fail
 go_ret2
 exact⟨rfl,C.O.drewN nq⟩
theorem EO(p:Value)(j:bS w F tb mb most rows cnt rp)(l:dE n)(m:rows n=none):
 Calls Tryz.prog 103 #[.pointer (some ⟨tb,0,none⟩),aW n,p] w λe w'=>e=.returned (.tuple #[.pointer none,.int .i64 5])/\ac w w':=by
 obtain⟨a,c⟩:=eX (w.alloc (.cells #[.int .u64 n.job,.string (sB n.M)] 58));have f:ac w a:=by rw[c];exact(aa.refl _ w).alloc _
 have d:=j.kp f nG;have q:a.cell? ⟨tb,1,none⟩=some (.map (some mb)):=d.J.I 1
 have s:∀k,(Instr.lookup 196 (.map (some mb)) (.agg #[.int .u64 n.job,.string (sB n.M)]) false).run Tryz.prog (a.drewN k)=.ok (.pointer none) (a.drewN k):=λk=>by
  have:=d.look l (a.drewN k) rfl;rw[m] at this;exact this
 have u:∀W:World,(binOp .eql 196 (.map (some mb)) (.map none)).run Tryz.prog W=.ok (.bool false) W:=λ_=>rfl
 have x:a.cell? ⟨w.heap.size,0,none⟩=some (.int .u64 n.job):=by rw[c];exact(ae.new w _ _).I 0
 have y:a.cell? ⟨w.heap.size,1,none⟩=some (.string (sB n.M)):=by rw[c];exact(ae.new w _ _).I 1
 have i:=hD c.symm;have o:=hD f;unfold aW fe;clear j d f m l c;go_enter Tryz.func103,Tryz.ntmps103;go_upto_region 1 with fail;rw[i.O];clear i;go_wp2_with fail
 go_quiet (fail)
 go_wp2_with fail
 go_ret2
 exact⟨rfl,o.O.drewN nq⟩
end
theorem aO{fn:Func}{a:Array Value}{w:World}{g k j:Nat}{T:TypeId}{d:TypeDesc}{cs:Array Value}(c:fn.results= #[.cell k T,.tmp j])(f:a.getD k undef=.pointer (some ⟨g,0,none⟩))(l:ae w g T cs)
 (s:Tryz.prog.underlying T=some d) (m:d.isRow=true) (o:(Tryz.prog.info? T).map (·.size)=some cs.size):
 (results fn a).run Tryz.prog w=.ok (.tuple #[.agg cs,a.getD j undef]) w:=by
 have q:=run_loadVar_mid (P:=Tryz.prog) w g 0 T cs.toList d (λj v p=>by rw[l.I,<-zj,yq];exact p) s m (by rw[o];simp);have i:a[k]?.getD undef=.pointer (some ⟨g,0,none⟩):=by simpa using f
 simp[results,c,i,q,Result.andThen,asAddr]
theorem jH{fn:Func}{a:Array Value}{w:World}{g k j i:Nat}{T:TypeId}{d:TypeDesc}{cs:Array Value}(c:fn.results= #[.cell k T,.tmp j,.tmp i])(f:a.getD k undef=.pointer (some ⟨g,0,none⟩))(m:ae w g T cs)
 (u:Tryz.prog.underlying T=some d) (o:d.isRow=true) (p:(Tryz.prog.info? T).map (·.size)=some cs.size):
 (results fn a).run Tryz.prog w=.ok (.tuple #[.agg cs,a.getD j undef,a.getD i undef]) w:=by
 have s:=run_loadVar_mid (P:=Tryz.prog) w g 0 T cs.toList d (λj v q=>by rw[m.I,<-zj,yq];exact q) u o (by rw[p];simp);have l:a[k]?.getD undef=.pointer (some ⟨g,0,none⟩):=by simpa using f
 simp[results,c,l,s,Result.andThen,asAddr]
section
variable {w w':World}{F F':Nat->Prop}{tb mb:Nat}{most:Int}{rows:Nm->Option aG}{cnt:Nat}{rp:Nm->Nat}{n:Nm}{r r':aG}
theorem bS.turn(f:bS w F tb mb most rows cnt rp)(p:rows n=some r)(l:aa (λb=>b=rp n) w w')(y:r'.tk=r.tk){A:Option Addr}{c:Nat}(o:ae w (rp n) 208 (bW n r A c))(E:aJ w F A r.tk.args)
 (G:ae w' (rp n) 208 (bW n r' A c)):bS w' F tb mb most (ax rows n (some r')) cnt rp:=by
 have H:(λd=>((ax rows n (some r')) d).map λ_=>Value.pointer (some ⟨rp d,0,none⟩))=λd=>(rows d).map λ_=>Value.pointer (some ⟨rp d,0,none⟩):=by
  funext d
  by_cases e:d=n
  ·subst e;rw[ay,p];rfl
  ·rw[ag _ _ e]
 have x:∀d,ax rows n (some r') d≠none->rows d≠none:=by
  intro d u
  by_cases e:d=n
  ·subst e;rw[p];simp
  ·rw[ag _ _ e] at u;exact u
 refine⟨f.ft,f.fm,l.J f.J ?_,?_,?_,?_⟩
 ·intro e
  exact ae.ne_ f.J o (by decide) e
 ·rw[H]
  exact f.map.only l (λe=>f.map.ne o e.symm)
 ·intro d q m
  by_cases e:d=n
  ·subst e
   rw[ay] at m
   cases m
   obtain⟨i,j,s,_⟩:=f.row d r p;exact⟨i,j,by rw[y];exact s,A,c,G,by rw[y];exact E.by_type l o (by decide)⟩
  ·rw[ag _ _ e] at m
   obtain⟨i,j,s,B,c',C,D⟩:=f.row d q m;exact⟨i,j,s,B,c',l.J C (f.inj d n (by rw[m];simp) (by rw[p];simp) e),D.by_type l o (by decide)⟩
 ·exact λa b i j=>f.inj a b (x a i) (x b j)
end
theorem af(w:World)(g i:Nat)(u:Value):aa (λb=>b=g) w (w.setCell ⟨g,i,none⟩ u):=aa.setCell (S:=λb=>b=g) (aa.refl _ w) (p:=⟨g,i,none⟩) (.inl rfl) u
theorem pH(w:World)(o a:Obj):((w.alloc o).alloc a).heap.size=w.heap.size+1+1:=by simp
theorem jy(w:World)(o:Obj):(w.alloc o).heap.size=w.heap.size+1:=by simp
section
variable {w w':World}{F F':Nat->Prop}{tb mb:Nat}{most:Int}{rows:Nm->Option aG}{cnt:Nat}{rp:Nm->Nat}{n:Nm}{r r':aG}
theorem Ac(a2:∀b,F b->b<w.heap.size)(s:bS w F tb mb most rows cnt rp)(a5:dE n)(x:rows n=some r)(m:r.sa=1\/r.sa=4):
 Calls Tryz.prog 136 #[.pointer (some ⟨tb,0,none⟩),aW n] w λe w'=>∃d c',e=.returned (.tuple #[.agg (bX r.tk d c'),.int .i64 0])/\aJ w' (λb=>w.heap.size<=b/\b<w'.heap.size) d r.tk.args/\
  bS w' F tb mb most (ax rows n (some {r with sa:=2})) cnt rp/\aa F w w':=by
 have bk:=s.J.lt;obtain⟨K,j⟩:=eX (((w.alloc (.cells #[.int .u64 n.job,.string (sB n.M)] 58)).alloc (.cells #[.string ⟨#[]⟩,.int .i64 0,.slice none 0 0,.int .i64 0] 30)).alloc (.cells #[.int .u8 1,.int .u8 4] 5));have o:ac w K:=by rw[j];exact(((aa.refl _ w).alloc _).alloc _).alloc _
 have L:ae K (w.heap.size+1) 30 #[.string ⟨#[]⟩,.int .i64 0,.slice none 0 0,.int .i64 0]:=by
  rw[j,<-jy w (.cells #[.int .u64 n.job,.string (sB n.M)] 58)];exact bN.alloc _
 have a1:ae K (w.heap.size+1+1) 5 (([1,4]:List Int).map (Value.int .u8)).toArray:=by
  rw[j,<-pH w (.cells #[.int .u64 n.job,.string (sB n.M)] 58) (.cells #[.string ⟨#[]⟩,.int .i64 0,.slice none 0 0,.int .i64 0] 30)];exact bN
 have E:=hD (mj (w.heap.size+1+1) 2 [1,4] (s.kp o λ_ _ e=>e) a5 x (by rcases m with m|m<;>simp[m]) (by decide) a1);have bn:=o.size;obtain⟨g,u⟩:=eX w.heap.size;rw[<-u] at L E;have D:=hD L;have X:=hD o;have a0:=hD j.symm;have Z:=hD (s.kp o λ_ _ e=>e);have W:=hD u;obtain⟨a7,b0,a8,A,c,a9,ab⟩:=Z.O.row n r x;have i:=hD (aI a7 (aI a8 (aI a9 ab)));have an:=hD x;have am:=hD a2;clear s L a1 o a7 b0 a8 a9 ab j u a5 x m a2;unfold aW fe at E ⊢;go_enter Tryz.func136,Tryz.ntmps136;go_wp2_with fail;rw[a0.O,<-W.O];refine E.O.mono ?_;rintro e ad ⟨rfl,p⟩;have G:=hD p;have a:=p.J i.O.2.2.1 nF;have b1:=a.I 2;have b2:=a.I 3;have ai:=a.I 4;have b3:=a.I 5;have b4:=a.I 6;have b9:=a.fz 6;simp[bW] at b1 b2 ai b3 b4;obtain⟨l,R⟩:=eX r.tk.args.length;have N:=i.O.2.2.2.kp p nG;obtain⟨T,y⟩:=eX (ad.setCell ⟨rp n,6,none⟩ (.int .u8 2));have B:aa (λb=>b=rp n) ad T:=by rw[y];exact af _ _ _ _
 have a4:ae T (rp n) 208 (bW n {r with sa:=2} A c):=by rw[y];exact a.s_ 6 _
 have ar:=hD ((Z.O.kp p λ_ _ e=>e).turn an.O B (r':={r with sa:=2}) rfl a N a4);have Y:=hD (rX r.tk A c F T (N.by_type B a (by decide)) i.O.2.1);have H:=hD B;have a3:=hD y.symm;rw[<-R] at ai;have Q:=hD R;clear a N B a4 y p R a0;go_wp2_with fail;rw[a3.O];unfold bX at Y;rw[Q.O];refine Y.O.mono ?_;rintro e V ⟨d,c',rfl,a6,S⟩;have av:=hD a6;have q:=hD S;have aE:g+1≠rp n:=λe=>ae.ne_ D.O i.O.2.2.1 (by decide) e
 have f:=S.J (H.O.J (G.O.J D.O nF) aE) nF;have b5:=f.I 0;have b6:=f.I 1;have b7:=f.I 2;have b8:=f.I 3;obtain⟨ba,bb,bc,bf⟩:=f.fE4;have al:=hD f;simp at b5 b6 b7 b8;clear a6 S f a3;rw[<-Q.O];go_wp2_with fail
 have aw:ae ((((V.setCell ⟨g+1,0,none⟩ (.string (sB r.tk.M))).setCell ⟨g+1,1,none⟩ (.int .i64 r.tk.fn)).setCell ⟨g+1,2,none⟩ (.slice d l c')).setCell ⟨g+1,3,none⟩ (.int .i64 (r.tk.fuel:Int))) (g+1) 30 #[.string (sB r.tk.M),.int .i64 r.tk.fn,.slice d l c',.int .i64 (r.tk.fuel:Int)]:=
  (((al.O.s_ 0 _).s_ 1 _).s_ 2 _).s_ 3 _
 have C:aa (λb=>b=g+1) V ((((V.setCell ⟨g+1,0,none⟩ (.string (sB r.tk.M))).setCell ⟨g+1,1,none⟩ (.int .i64 r.tk.fn)).setCell ⟨g+1,2,none⟩ (.slice d l c')).setCell ⟨g+1,3,none⟩ (.int .i64 (r.tk.fuel:Int))):=
  (((af _ _ _ _).trans (af _ _ _ _)).trans (af _ _ _ _)).trans (af _ _ _ _)
 have u:=W.O;have bo:=X.O.size;have bp:=G.O.size;have bq:=H.O.size;have br:=q.O.size;have bt:=C.size;have bm:=D.O.lt;refine bodyPost_ret (aO Tryz.results136 rfl aw Tryz.underlying30 rfl (by kernel_rfl)) rfl ?_;have az:=am.O;refine⟨d,c',by rw[Q.O];rfl,(av.O.kp C (λb a=>by have:=q.O.size;omega)).mo (λb a=>by omega),(ar.O.kp q.O nG).kp C (λb a e=>?_),?_⟩
 ·have:=az b a
  omega
 ·exact((((X.O.mono λ_ e=>e.elim).trans (G.O.mono λ_ e=>e.elim)).trans (H.O.mono λb e=>by rw[e];exact i.O.1)).trans (q.O.mono λ_ e=>e.elim)).trans' C (λb e=>.inr (by omega))
theorem F3(g c:Nat)(xs:List Int)(f:bS w F tb mb most rows cnt rp)(i:dE n)(m:∀r,rows n=some r->¬(r.sa:Int)∈xs)(l:xs.length<=10)(j:ae w g 5 (xs.map (Value.int .u8)).toArray):
 Calls Tryz.prog 103 #[.pointer (some ⟨tb,0,none⟩),aW n,.slice (some ⟨g,0,none⟩) xs.length c] w λe w'=>∃d,e=.returned (.tuple #[.pointer none,.int .i64 d])/\(d !=0)=true/\ac w w':=by
 cases hx:rows n with
 |none=>
  refine(EO _ f i hx).mono ?_;rintro e o ⟨rfl,a⟩;exact⟨5,rfl,rfl,a⟩
 |some r=>
  refine(Dc g c xs f i hx (m r hx) l j).mono ?_;rintro e o ⟨rfl,a⟩;exact⟨3,rfl,rfl,a⟩
theorem Ck(x:bS w F tb mb most rows cnt rp)(y:dE n)(A:∀r,rows n=some r->r.sa≠1/\r.sa≠4):
 Calls Tryz.prog 136 #[.pointer (some ⟨tb,0,none⟩),aW n] w λe w'=>∃d,e=.returned (.tuple #[.agg #[.string ⟨#[]⟩,.int .i64 0,.slice none 0 0,.int .i64 0],.int .i64 d])/\(d !=0)=true/\ac w w':=by
 obtain⟨j,c⟩:=eX (((w.alloc (.cells #[.int .u64 n.job,.string (sB n.M)] 58)).alloc (.cells #[.string ⟨#[]⟩,.int .i64 0,.slice none 0 0,.int .i64 0] 30)).alloc (.cells #[.int .u8 1,.int .u8 4] 5));have m:ac w j:=by rw[c];exact(((aa.refl _ w).alloc _).alloc _).alloc _
 have l:ae j (w.heap.size+1) 30 #[.string ⟨#[]⟩,.int .i64 0,.slice none 0 0,.int .i64 0]:=by
  rw[c,<-jy w (.cells #[.int .u64 n.job,.string (sB n.M)] 58)];exact bN.alloc _
 have u:ae j (w.heap.size+1+1) 5 (([1,4]:List Int).map (Value.int .u8)).toArray:=by
  rw[c,<-pH w (.cells #[.int .u64 n.job,.string (sB n.M)] 58) (.cells #[.string ⟨#[]⟩,.int .i64 0,.slice none 0 0,.int .i64 0] 30)];exact bN
 have i:=hD (F3 (w.heap.size+1+1) 2 [1,4] (x.kp m λ_ _ e=>e) y (λr L=>by have:=A r L;simp only[yG,List.not_mem_nil,or_false];omega) (by decide) u);obtain⟨g,f⟩:=eX w.heap.size;rw[<-f] at l i;have C:=hD l;have E:=hD m;have s:=hD c.symm;have q:=hD f;clear x l u m c f y A;unfold aW fe at i ⊢;go_enter Tryz.func136,Tryz.ntmps136;go_wp2_with fail;rw[s.O,<-q.O];refine i.O.mono ?_;rintro e p ⟨d,rfl,K,o⟩;have G:=hD o;have D:=hD K;have a:=o.J C.O nF;have Q:=a.I 0;have R:=a.I 1;have S:=a.I 2;have T:=a.I 3;obtain⟨V,W,X,Y⟩:=a.fE4;have B:=hD a;simp at Q R S T;clear o a s;go_wp2_with fail
 have H:ae ((((p.setCell ⟨g+1,0,none⟩ (.string ⟨#[]⟩)).setCell ⟨g+1,1,none⟩ (.int .i64 0)).setCell ⟨g+1,2,none⟩ (.slice none 0 0)).setCell ⟨g+1,3,none⟩ (.int .i64 0)) (g+1) 30 #[.string ⟨#[]⟩,.int .i64 0,.slice none 0 0,.int .i64 0]:=
  (((B.O.s_ 0 _).s_ 1 _).s_ 2 _).s_ 3 _
 have N:aa (λb=>b=g+1) p ((((p.setCell ⟨g+1,0,none⟩ (.string ⟨#[]⟩)).setCell ⟨g+1,1,none⟩ (.int .i64 0)).setCell ⟨g+1,2,none⟩ (.slice none 0 0)).setCell ⟨g+1,3,none⟩ (.int .i64 0)):=
  (((af _ _ _ _).trans (af _ _ _ _)).trans (af _ _ _ _)).trans (af _ _ _ _)
 have f:=q.O;refine bodyPost_ret (aO Tryz.results136 rfl H Tryz.underlying30 rfl (by kernel_rfl)) rfl ?_;exact⟨d,rfl,D.O,(E.O.trans G.O).trans' N (λb e=>.inr (by omega))⟩
theorem E6(i:bS w F tb mb most rows cnt rp)(s:dE n)(l:rows n=some r)(x:r.sa=2)(u:r.opn=0):
 Calls Tryz.prog 88 #[.pointer (some ⟨tb,0,none⟩),aW n] w λe w'=>e=.returned (.tuple #[.bool false,.int .i64 0])/\ac w w':=by
 obtain⟨p,a⟩:=eX ((w.alloc (.cells #[.int .u64 n.job,.string (sB n.M)] 58)).alloc (.cells #[.int .u8 2] 5));have d:ac w p:=by rw[a];exact((aa.refl _ w).alloc _).alloc _
 have q:ae p (w.heap.size+1) 5 (([2]:List Int).map (Value.int .u8)).toArray:=by
  rw[a,<-jy w (.cells #[.int .u64 n.job,.string (sB n.M)] 58)];exact bN
 have f:=hD (mj (w.heap.size+1) 1 [2] (i.kp d λ_ _ e=>e) s l (by simp[x]) (by decide) q);obtain⟨g,j⟩:=eX w.heap.size;rw[<-j] at f;have C:=hD d;have o:=hD a.symm;have D:=hD (i.kp d λ_ _ e=>e);have B:=hD j;obtain⟨H,K,L,A,c,y,N⟩:=D.O.row n r l;have E:=hD y;clear i q d H K L y N a j s l x;unfold aW fe at f ⊢;go_enter Tryz.func88,Tryz.ntmps88;go_wp2_with fail;rw[o.O,<-B.O];refine f.O.mono ?_;rintro e R ⟨rfl,m⟩;have G:=hD m;have Q:=(m.J E.O nF).I 7;simp[bW,u] at Q;clear m u o;go_wp2_with fail
 go_ret2
 exact⟨rfl,C.O.trans G.O⟩
theorem D0(Z:∀b,F b->b<w.heap.size)(p:bS w F tb mb most rows cnt rp)(E:dE n)(i:rows n=some r)(G:r.sa=2)(a5:(r.opn==0)=false):
 Calls Tryz.prog 88 #[.pointer (some ⟨tb,0,none⟩),aW n] w λe w'=>e=.returned (.tuple #[.bool true,.int .i64 0])/\bS w' F tb mb most (ax rows n (some {r with sa:=3})) cnt rp/\aa F w w':=by
 obtain⟨y,f⟩:=eX ((w.alloc (.cells #[.int .u64 n.job,.string (sB n.M)] 58)).alloc (.cells #[.int .u8 2] 5));have l:ac w y:=by rw[f];exact((aa.refl _ w).alloc _).alloc _
 have B:ae y (w.heap.size+1) 5 (([2]:List Int).map (Value.int .u8)).toArray:=by
  rw[f,<-jy w (.cells #[.int .u64 n.job,.string (sB n.M)] 58)];exact bN
 have m:=hD (mj (w.heap.size+1) 1 [2] (p.kp l λ_ _ e=>e) E i (by simp[G]) (by decide) B);obtain⟨g,q⟩:=eX w.heap.size;rw[<-q] at m;have T:=hD l;have x:=hD f.symm;have u:=hD (p.kp l λ_ _ e=>e);have S:=hD q;obtain⟨H,a1,K,A,c,L,N⟩:=u.O.row n r i;have o:=hD (aI H (aI K (aI L N)));have V:=hD i;clear p B l H a1 K L N f q E i G Z;unfold aW fe at m ⊢;go_enter Tryz.func88,Tryz.ntmps88;go_wp2_with fail;rw[x.O,<-S.O];refine m.O.mono ?_;rintro e Q ⟨rfl,d⟩;have X:=hD d;have a:=d.J o.O.2.2.1 nF;have a2:=a.I 6;have a3:=a.I 7;have a4:=a.fz 6;simp[bW] at a2 a3;have C:=o.O.2.2.2.kp d nG;obtain⟨R,j⟩:=eX (Q.setCell ⟨rp n,6,none⟩ (.int .u8 3));have s:aa (λb=>b=rp n) Q R:=by rw[j];exact af _ _ _ _
 have D:ae R (rp n) 208 (bW n {r with sa:=3} A c):=by rw[j];exact a.s_ 6 _
 have W:=hD ((u.O.kp d λ_ _ e=>e).turn V.O s (r':={r with sa:=3}) rfl a C D);have Y:=hD s;have a0:=hD j.symm;clear a C s D j d x;go_wp2_with fail;rw[a0.O]
 go_ret2
 exact⟨rfl,W.O,((T.O.mono λ_ e=>e.elim).trans (X.O.mono λ_ e=>e.elim)).trans (Y.O.mono λb e=>by rw[e];exact o.O.1)⟩
end
def jo(n:Nm)(r:aG)(A:Option Addr)(c:Nat):Array Value:=
 #[.int .u64 n.job,.string (sB n.M),.string (sB r.tk.M),.int .i64 r.tk.fn,.slice A r.tk.args.length c,.int .i64 (r.tk.fuel:Int),.int .u8 (r.sa:Int),.int .i64 r.opn,.int .i64 r.res.v,.int .i64 r.res.e]
def jp:Array Value:=#[.int .u64 0,.string ⟨#[]⟩,.string ⟨#[]⟩,.int .i64 0,.slice none 0 0,.int .i64 0,.int .u8 0,.int .i64 0,.int .i64 0,.int .i64 0]
theorem oO{w w':World}{g a i:Nat}{u:Value}(c:aa (λb=>b=g\/b=a) w w'):aa (λb=>b=g\/b=a) w (w'.setCell ⟨g,i,none⟩ u):=c.setCell (p:=⟨g,i,none⟩) (.inl (.inl rfl)) u
theorem Bq{w w':World}{g a i:Nat}{u:Value}(c:aa (λb=>b=g\/b=a) w w'):aa (λb=>b=g\/b=a) w (w'.setCell ⟨a,i,none⟩ u):=c.setCell (p:=⟨a,i,none⟩) (.inl (.inr rfl)) u
theorem tg{w:World}{g:Nat}{T:TypeId}{a c d f i j l m o p v0 v1 v2 v3 v4 v5 v6 v7 v8 v9:Value}(q:ae w g T #[a,c,d,f,i,j,l,m,o,p]):ae ((((((((((w.setCell ⟨g,0,none⟩ v0).setCell ⟨g,1,none⟩ v1).setCell ⟨g,2,none⟩ v2).setCell ⟨g,3,none⟩ v3).setCell ⟨g,4,none⟩ v4).setCell ⟨g,5,none⟩ v5).setCell ⟨g,6,none⟩ v6).setCell ⟨g,7,none⟩ v7).setCell ⟨g,8,none⟩ v8).setCell ⟨g,9,none⟩ v9) g T #[v0,v1,v2,v3,v4,v5,v6,v7,v8,v9]:=by
 have k:=((((((((((q.s_ 0 v0).s_ 1 v1).s_ 2 v2).s_ 3 v3).s_ 4 v4).s_ 5 v5).s_ 6 v6).s_ 7 v7).s_ 8 v8).s_ 9 v9)
 simpa using k
theorem uX(q:Nat)(n:Nm)(r:aG)(A:Option Addr)(c:Nat)(F:Nat->Prop)(w:World)(hb:ae w q 208 (bW n r A c))(a1:aJ w F A r.tk.args)(a3:r.tk.args.length<=100000):
 Calls Tryz.prog 98 #[.pointer (some ⟨q,0,none⟩)] w λe w'=>∃i c',e=.returned (.agg (jo n r i c'))/\aJ w' (λb=>w.heap.size<=b/\b<w'.heap.size) i r.tk.args/\ac w w':=by
 obtain⟨j,x⟩:=eX (w.alloc (.cells jp 60));have D:ac w j:=by rw[x];exact(aa.refl _ w).alloc _
 have a:ae j w.heap.size 60 jp:=by rw[x];exact bN
 have f:=D.J hb nF;have a2:=a1.kp D nG;obtain⟨g,y⟩:=eX w.heap.size;obtain⟨l,N⟩:=eX r.tk.args.length;rw[<-y] at a;have c1:=hD f;have az:=hD a2;have u:=hD N;have aE:=hD a3;have G:=hD a;have W:=hD D;have V:=hD y;have a5:=f.I 0;have a6:=f.I 1;have a7:=f.I 2;have a8:=f.I 3;have a9:=f.I 4;have ab:=f.I 5;have ad:=f.I 6;have ai:=f.I 7;have al:=f.I 8;have am:=f.I 9;simp[bW,<-N] at a5 a6 a7 a8 a9 ab ad ai al am;unfold jp at x;have Y:=hD x.symm;clear hb a1 f a2 x D a N a3 y;go_enter Tryz.func98,Tryz.ntmps98;go_upto_region 1 with fail;rw[Y.O,<-V.O];clear Y;go_wp2_with fail;obtain⟨L,s⟩:=eX (j.alloc (.cells (jo n r A c) 60));have Q:ac j L:=by rw[s];exact(aa.refl _ j).alloc _
 have d:ae L j.heap.size 60 (jo n r A c):=by rw[s];exact bN
 have X:=hD (rX r.tk A c F L (az.O.kp Q λ_ _ e=>e) aE.O);obtain⟨m,B⟩:=eX j.heap.size;rw[<-B] at d;have R:=hD d;have K:=hD Q;have H:=hD B;unfold jo at s;rw[<-u.O] at s;have Z:=hD s.symm;rw[Z.O,<-H.O];clear s Q d B a5 a6 a7 a8 a9 ab ad ai al am;unfold bX at X;rw[u.O];refine X.O.mono ?_;rintro e b7 ⟨i,c',rfl,a4,E⟩;rw[<-u.O];have C:g≠m:=by have cr:=G.O.lt;have cv:=H.O;omega
 have a:=E.J (K.O.J G.O nF) nF;have d:=E.J R.O nF;have b0:=hD a4;have a0:=hD E;have b8:=d.I 0;have b9:=d.I 1;have ba:=d.I 2;have bb:=d.I 3;have bc:=d.I 4;have bf:=d.I 5;have bk:=d.I 6;have bm:=d.I 7;have bn:=d.I 8;have bo:=d.I 9;simp[jo,<-u.O] at b8 b9 ba bb bc bf bk bm bn bo;obtain⟨c2,c3,c4,c5,c6,c7,c8,c9,cb,cd⟩:=d.fE10;have bp:=a.I 0;have an:=a.I 1;have ar:=a.I 2;have av:=a.I 3;have bq:=a.I 4;have br:=a.I 5;have bt:=a.I 6;have bv:=a.I 7;have bx:=a.I 8;have bz:=a.I 9;simp[jp] at bp an ar av bq br bt bv bx bz;obtain⟨ce,cf,cg,ch,ci,ck,cm,cn,cp,cq⟩:=a.fE10;have aw:=hD a;have c0:=hD d;clear Z a d a4 E;go_wp2_with fail;have y:=V.O;have B:=H.O;have an:=W.O.size;have ar:=K.O.size;have av:=a0.O.size;have cw:=G.O.lt;refine bodyPost_ret (cy Tryz.results98 rfl (cs:=jo n r i c') ?hb Tryz.underlying60 rfl (by kernel_rfl)) rfl ?_
 case hb=>
  unfold jo;rw[<-u.O];have b1:ae b7 g 60 #[.int .u64 0,.string ⟨#[]⟩,.string ⟨#[]⟩,.int .i64 0,.slice none 0 0,.int .i64 0,.int .u8 0,.int .i64 0,.int .i64 0,.int .i64 0]:=aw.O;have b2:=b1.far (p:=⟨m,2,none⟩) C (.string (sB r.tk.M));have b3:=b2.far (p:=⟨m,3,none⟩) C (.int .i64 r.tk.fn);have b4:=b3.far (p:=⟨m,4,none⟩) C (.slice i l c');have b5:=b4.far (p:=⟨m,5,none⟩) C (.int .i64 (r.tk.fuel:Int));have b6:=tg (v0:=.int .u64 n.job) (v1:=.string (sB n.M)) (v2:=.string (sB r.tk.M)) (v3:=.int .i64 r.tk.fn) (v4:=.slice i l c') (v5:=.int .i64 (r.tk.fuel:Int)) (v6:=.int .u8 (r.sa:Int)) (v7:=.int .i64 r.opn) (v8:=.int .i64 r.res.v) (v9:=.int .i64 r.res.e) b5;exact b6
 refine⟨i,c',rfl,(b0.O.kp ?o (λb hb e=>?_)).mo (λb hb=>?_),((W.O.trans K.O).trans a0.O).trans' (T:=λb=>b=g\/b=m) ?o (λb e=>.inr (by omega))⟩
 case o=>repeat (first|with_reducible apply oO|with_reducible apply Bq|with_reducible exact oR)
 ·have:=R.O.lt
  have:=hb.1
  rcases e with rfl|rfl<;>omega
 ·refine⟨by have:=hb.1;omega,lL hb.2 (aa.size (S:=λb=>b=g\/b=m) ?_)⟩
  repeat (first|with_reducible apply oO|with_reducible apply Bq|with_reducible exact oR)
def jf(P:Program)(w:World)(k:TypeId)(b r:Nat)(g:Value->Option Value)(cnt:Nat)(ey:List Value)(left:Nat):Prop:=
 ∃D lf,w.ranges P k qx b r cnt D lf left/\Maps.size D=cnt/\(∀key kl,keyOf P k key=some kl->(g key=none->Maps.has D kl=false)/\∀v,g key=some v->Maps.has D kl=true/\∀z,D.atKey kl z=.held v)/\
  ∀key kl,keyOf P k key=some kl->(lf kl=true↔g key≠none/\key ∉ ey)
section
variable {P:Program}{w w':World}{k t e:TypeId}{b r cnt left:Nat}{g:Value->Option Value}{key v z:Value}{kl:Lit}{ey:List Value}
theorem jf.heap(i:jf P w k b r g cnt ey left)(q:w'.heap[b]?=w.heap[b]?)(s:w'.heap[r]?=w.heap[r]?):jf P w' k b r g cnt ey left:=by
 obtain⟨a,u,⟨f,d,y,A,c,j,F,l,m,o,x⟩,p⟩:=i;exact⟨a,u,⟨f,d,y,A,c,q.trans j,F,l,m,s.trans o,x⟩,p⟩
theorem jf.only{S:Nat->Prop}(a:jf P w k b r g cnt ey left)(d:aa S w w')(i:¬S b)(j:¬S r):jf P w' k b r g cnt ey left:=by
 have f:=a;obtain⟨l,m,c,_⟩:=f;exact a.heap (d.block b c.owns.lt i) (d.block r c.lt j)
theorem jf.left_eq(a:jf P w k b r g cnt ey left):w.rangeLeft b r=left:=by
 obtain⟨d,f,c,_⟩:=a;exact c.left_eq
theorem aS.range(j:aS P w k b g cnt)(i:Keyed P k)(A:P.underlying t=some (.map k e)):
 ∃w',(Instr.range t (.map (some b))).run P w=.ok (.pointer (some ⟨w.heap.size,0,none⟩)) w'/\jf P w' k b w.heap.size g cnt [] cnt/\ac w w'/\w'.heap.size=w.heap.size+1:=by
 obtain⟨f,l,a,c⟩:=j;obtain⟨w',s,d,p,y⟩:=l.range i A;refine⟨w',s,⟨f,_,by rw[<-a];rw[<-a] at d;exact d,a,c,λkey kl q=>?_⟩,(aa.refl _ w).grown p (λx B=>by cases B),y⟩;obtain⟨m,o⟩:=c key kl q
 cases hgk:g key with
 |none=>rw[m hgk];simp
 |some u=>rw[(o u hgk).1];simp
theorem jf.next(H:jf P w k b r g cnt ey left)(i:Keyed P k)(o:TypeId):
 (left=0/\(∀key kl,keyOf P k key=some kl->g key≠none->key∈ey)/\(Instr.next (.pointer (some ⟨r,0,none⟩)) false o).run P w=.ok (.tuple #[.bool false]) w)\/
 ∃key v w' A,(∃kl,keyOf P k key=some kl)/\g key=some v/\key ∉ ey/\(Instr.next (.pointer (some ⟨r,0,none⟩)) false o).run P w=.ok (.tuple #[.bool true,key,v]) w'/\jf P w' k b r g cnt (key :: ey) A/\A<left/\aa (λx=>x=r) w w'/\
  (Instr.entry (.pointer (some ⟨r,0,none⟩))).run P w'=.ok (.tuple #[key,v]) w':=by
 obtain⟨B,a5,K,L,p,m⟩:=H
 rcases K.next i o with⟨D,E,G⟩|⟨key,v,kl,y,w',C,a,T,s,V,W,X,Y,Z,a4,S⟩
 ·refine .inl ⟨D,λkey kl Q d=>?_,G⟩
  by_cases q:key∈ey
  ·exact q
  ·have:=(m key kl Q).2 ⟨d,q⟩
   rw[E] at this
   cases this
 ·obtain⟨a2,a3⟩:=(m key kl a).1 T
  have hv:g key=some v:=by
   cases d:g key with
   |none=>exact absurd d a2
   |some u=>
    have:=((p key kl a).2 u d).2 (.held v);rw[V] at this;simp only[qx,yC] at s;rw[<-s] at this;simp only[DataW.held.injEq] at this;rw[this]
  refine .inr ⟨key,v,w',C,⟨kl,a⟩,hv,a3,W,⟨B,_,X,L,p,λa0 a1 f=>?_⟩,Y,(aa.refl _ w).grown Z λx R=>by cases R;exact .inl rfl,S⟩;have N:=m a0 a1 f;simp only[zm,Bool.not_eq_true',yG,not_or];rw[N];constructor
  ·rintro ⟨⟨j,l⟩,c⟩
   refine⟨j,λe=>?_,l⟩;subst e;rw[a] at f
   cases f
   rw[WideAt.sameKey_self (i.key a)] at c
   cases c
  ·rintro ⟨j,l,c⟩
   exact⟨⟨j,c⟩,Maps.sameKey_ne λe=>l (i.inj f (e ▸ a))⟩
theorem mV{d:Array Oper}{f:List Oper}{o:Oper}{a:Act}{Q:Exit->Act->World->Prop}(m:o.guard=none)(c:Operand)(t:TypeId)(q:o.op=Op.range t c)(k e:TypeId)(i:Keyed P k)(x:P.underlying t=some (.map k e))
 (p:a.eval c=.map (some b)) (s:aS P w k b g cnt)
 (j:∀w',jf P w' k b w.heap.size g cnt [] cnt->ac w w'->w'.heap.size=w.heap.size+1->wpList P d Q f (a.put o.dst (.pointer (some ⟨w.heap.size,0,none⟩))) w'):
 wpList P d Q (o :: f) a w:=by
 refine wpList_plain m λC l=>?_
 obtain⟨w',u,y,A,B⟩:=s.range i x;unfold Oper.wp;simp[execOp,q,p,u,Result.andThen];exact l _ _ (j w' y A B)
theorem n4{α:Type}{j:Array Oper}{l:List Oper}{o:Oper}{a:Act}{Q:Exit->Act->World->Prop}(H:o.guard=none)(u:Operand)(s:o.op=Op.next u false)(A:Keyed P k)(c f:α->Value)
 (L:∀key v,g key=some v->∃x,key=c x/\v=f x) (q:a.eval u=.pointer (some ⟨r,0,none⟩)) (B:jf P w k b r g cnt ey left)
 (D:left=0->(∀key kl,keyOf P k key=some kl->g key≠none->key∈ey)->wpList P j Q l (a.put o.dst (.tuple #[.bool false])) w)
 (E:∀(x:α) (w':World) (d:Nat),g (c x)=some (f x)->c x ∉ ey->jf P w' k b r g cnt (c x :: ey) d->d<left->aa (λy=>y=r) w w'->
  (Instr.entry (.pointer (some ⟨r,0,none⟩))).run P w'=.ok (.tuple #[c x,f x]) w'->wpList P j Q l (a.put o.dst (.tuple #[.bool true,c x,f x])) w'):
 wpList P j Q (o :: l) a w:=by
 refine wpList_plain H λV m=>?_
 unfold Oper.wp
 rcases B.next A o.type with⟨C,N,i⟩|⟨key,v,w',d,W,p,S,i,T,R,K,G⟩
 ·simp[execOp,s,q,i,Result.andThen]
  exact m _ _ (D C N)
 ·obtain⟨x,rfl,rfl⟩:=L key v p
  simp[execOp,s,q,i,Result.andThen];exact m _ _ (E x w' d p S T R K G)
end
end
end Go.Proofs.YtmdocplknceilaaGreat
