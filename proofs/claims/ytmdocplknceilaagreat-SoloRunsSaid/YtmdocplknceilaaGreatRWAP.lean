import Derived.Test.YtmdocplknceilaaGreatRWAO
import Derived.Test.YtmdocplknceilaaGreatRSh
set_option linter.all false
namespace Go.Proofs.YtmdocplknceilaaGreat
section
open Go.RowKit Go.Maps
def aJ(w:World)(F:Nat->Prop)(A:Option Addr)(xs:List Int):Prop:=
 (A=none/\xs= [])\/∃b o,A=some ⟨b,o,none⟩/\(0<xs.length->F b/\∃zs,ae w b 2 zs)/\∀k,k<xs.length->F b/\w.cell? ⟨b,o+k,none⟩=some (.int .i64 (xs.getD k 0))
theorem bg(b o k:Nat):(⟨b,o,none⟩ :Addr).add k=⟨b,o+k,none⟩:=by unfold Addr.add;split<;>simp_all
section
variable {w w':World}{F F':Nat->Prop}{A:Option Addr}{xs:List Int}{n c:Nat}
theorem aJ.mo(a:aJ w F A xs)(f:∀b,F b->F' b):aJ w F' A xs:=by
 rcases a with a|⟨b,o,j,d,e⟩
 ·exact .inl a
 ·exact .inr ⟨b,o,j,λi=>⟨f _ (d i).1,(d i).2⟩,λk g=>⟨f _ (e k g).1,(e k g).2⟩⟩
theorem aJ.kp{S:Nat->Prop}(e:aJ w F A xs)(j:aa S w w')(i:∀b,F b->¬S b):aJ w' F A xs:=by
 rcases e with e|⟨b,o,l,f,a⟩
 ·exact .inl e
 ·exact .inr ⟨b,o,l,λg=>⟨(f g).1,(f g).2.imp λq m=>j.J m (i b (f g).1)⟩,λk d=>⟨(a k d).1,(j.I (p:=⟨b,o+k,none⟩) (block_lt_of_cell (a k d).2) (i b (a k d).1)).trans (a k d).2⟩⟩
theorem aJ.nil(w:World)(F:Nat->Prop):aJ w F none []:=.inl ⟨rfl,rfl⟩
theorem aJ.by_type{q:Nat}{T:TypeId}{cs:Array Value}(d:aJ w F A xs)(j:aa (λb=>b=q) w w')(u:ae w q T cs)(t:2≠T):aJ w' F A xs:=by
 rcases d with d|⟨b,o,g,r,e⟩
 ·exact .inl d
 ·by_cases f:0<xs.length
  ·obtain⟨s,v,l⟩:=r f
   have i:b≠q:=ae.ne_ l u t;exact .inr ⟨b,o,g,λ_=>⟨s,v,j.J l i⟩,λk a=>⟨(e k a).1,(j.I (p:=⟨b,o+k,none⟩) (block_lt_of_cell (e k a).2) i).trans (e k a).2⟩⟩
  ·exact .inr ⟨b,o,g,λm=>absurd m f,λk a=>absurd (by omega) f⟩
theorem aJ.of_own{base:Nat}{v:Value}(a:w.ownsRow base 2 1 v xs.length (xs.map (.int .i64))):∃A c,v=.slice A xs.length c/\aJ w (λb=>base<=b/\b<w.heap.size) A xs:=by
 rcases a.2 with⟨rfl,d⟩|⟨g,j,cur,rfl,e,i,_⟩
 ·rw[d]
  exact⟨none,0,rfl,.inl ⟨rfl,yr d⟩⟩
 ·have f:g<w.heap.size:=(yu.1 i).1
  refine⟨_,j,rfl,.inr ⟨g,0,rfl,λ_=>⟨⟨e,f⟩,cur,i⟩,λk l=>⟨⟨e,f⟩,?_⟩⟩⟩;have:=a.cells (g:=g) rfl k (.int .i64 (xs.getD k 0)) (by simp[yc,l]);rw[bg] at this;exact this
end
theorem lB:∃i,Tryz.prog.info? 2=some i/\i.zero=some (.int .i64 0)/\i.size=1/\i.bytes=8:=by
 have a:(Tryz.prog.info? 2).map (λi=>(i.zero,i.size,i.bytes))=some (some (.int .i64 0),1,8):=by kernel_rfl
 cases hi:Tryz.prog.info? 2 with
 |none=>rw[hi] at a;cases a
 |some i=>
  rw[hi] at a;simp only[yU,yC,yP] at a;exact⟨i,rfl,a⟩
theorem lm(A:Option Addr)(xs:List Int)(c:Nat)(F:Nat->Prop)(w:World)(f:aJ w F A xs)(s:xs.length<=100000):
 Calls Tryz.prog 113 #[.slice A xs.length c] w λe w'=>∃d c',e=.returned (.slice d xs.length c')/\aJ w' (λb=>w.heap.size<=b/\b<w'.heap.size) d xs/\ac w w':=by
 rcases f with⟨rfl,rfl⟩|⟨b,o,rfl,_,f⟩
 ·refine(Tryz.slices_Clone_nil 0 c w).mono ?_
  rintro e w' ⟨rfl,rfl⟩;exact⟨none,0,rfl,aJ.nil _ _,oR⟩
 ·obtain⟨i,l,m,g,k⟩:=lB
  refine(Tryz.slices_Clone i (.int .i64 0) 1 8 l m g k rfl (by omega) Tryz.sizeOf2 b o xs.length c (xs.map (.int .i64)) w (by simp) (by unfold maxLen;omega) (by omega) (λj u a=>?_) (λu a=>?_)).mono ?_
  ·rw[yJ] at a
   cases hx:xs[j]? with
   |none=>rw[hx] at a;cases a
   |some x=>
    rw[hx] at a
    cases a
    have:=(f j (gS hx).1).2;rw[this,yc,hx];rfl
  ·obtain⟨x,_,rfl⟩:=yL.1 a
   rfl
  ·rintro e w' ⟨v,rfl,p,t,q⟩
   obtain⟨d,c',rfl,r⟩:=aJ.of_own p;exact⟨d,c',rfl,r,aa.below_ q⟩
def bX(t:aj)(A:Option Addr)(c:Nat):Array Value:=#[.string (sB t.M),.int .i64 t.fn,.slice A t.args.length c,.int .i64 (t.fuel:Int)]
theorem cy{fn:Func}{a:Array Value}{w:World}{g k:Nat}{T:TypeId}{d:TypeDesc}{cs:Array Value}(b:fn.results= #[.cell k T])(e:a.getD k undef=.pointer (some ⟨g,0,none⟩))(i:ae w g T cs)
 (q:Tryz.prog.underlying T=some d) (l:d.isRow=true) (m:(Tryz.prog.info? T).map (·.size)=some cs.size):
 (results fn a).run Tryz.prog w=.ok (.agg cs) w:=by
 have p:=run_loadVar_mid (P:=Tryz.prog) w g 0 T cs.toList d (λj v o=>by rw[i.I,<-zj,yq];exact o) q l (by rw[m];simp);have f:a[k]?.getD undef=.pointer (some ⟨g,0,none⟩):=by simpa using e
 simp[results,b,f,p,asAddr]
theorem rX(t:aj)(A:Option Addr)(c:Nat)(F:Nat->Prop)(w:World)(C:aJ w F A t.args)(D:t.args.length<=100000):
 Calls Tryz.prog 104 #[.agg (bX t A c)] w λf w'=>∃a c',f=.returned (.agg (bX t a c'))/\aJ w' (λb=>w.heap.size<=b/\b<w'.heap.size) a t.args/\ac w w':=by
 have r:Hd (∀W,ac w W->Calls Tryz.prog 113 #[.slice A t.args.length c] W λf w'=>∃a c',f=.returned (.slice a t.args.length c')/\aJ w' (λb=>W.heap.size<=b/\b<w'.heap.size) a t.args/\ac W w'):=hD λW N=>lm A t.args c F W (C.kp N λ_ _ f=>f) D
 obtain⟨n,E⟩:=eX t.args.length;clear C D;unfold bX;rw[<-E] at r ⊢;obtain⟨k,i⟩:=eX ((w.alloc (.cells #[.string (sB t.M),.int .i64 t.fn,.slice A n c,.int .i64 (t.fuel:Int)] 30)).alloc (.cells #[.string ⟨#[]⟩,.int .i64 0,.slice none 0 0,.int .i64 0] 30));have s:ac w k:=by rw[i];exact((aa.refl _ w).alloc _).alloc _
 have e:ae k w.heap.size 30 #[.string (sB t.M),.int .i64 t.fn,.slice A n c,.int .i64 (t.fuel:Int)]:=by rw[i];exact(ae.new w _ _).alloc _
 have d:ae k (w.heap.size+1) 30 #[.string ⟨#[]⟩,.int .i64 0,.slice none 0 0,.int .i64 0]:=by
  rw[i];have:=ae.new (w.alloc (.cells #[.string (sB t.M),.int .i64 t.fn,.slice A n c,.int .i64 (t.fuel:Int)] 30)) 30 #[.string ⟨#[]⟩,.int .i64 0,.slice none 0 0,.int .i64 0];have Q:(w.alloc (.cells #[.string (sB t.M),.int .i64 t.fn,.slice A n c,.int .i64 (t.fuel:Int)] 30)).heap.size=w.heap.size+1:=by simp
  rw[Q] at this;exact this
 obtain⟨g,l⟩:=eX w.heap.size;have v:=hD e;have q:=hD d;have y:=hD s;have x:=hD l;rw[<-l] at v q;have z:=hD i.symm;have K:=hD (r.O k s);clear e d s i r l E;go_enter Tryz.func104,Tryz.ntmps104;go_wp2_with fail;rw[z.O];refine K.O.mono ?_;rintro f o ⟨a,c',rfl,G,m⟩;have L:=hD G;have B:=hD m;have e:=m.J v.O nF;have d:=m.J q.O nF;have R:=e.I 0;have S:=e.I 1;have T:=e.I 2;have V:=e.I 3;have X:=d.I 0;have Y:=d.I 1;have Z:=d.I 2;have a0:=d.I 3;have a1:=e.fz 2;obtain⟨a2,a3,a4,a5⟩:=d.fE4;have H:=hD d;simp at R S T V X Y Z a0;rw[<-x.O];clear G m e d z;go_wp2_with fail
 have P:ae (((((o.setCell ⟨g,2,none⟩ (.slice a n c')).setCell ⟨g+1,0,none⟩ (.string (sB t.M))).setCell ⟨g+1,1,none⟩ (.int .i64 t.fn)).setCell ⟨g+1,2,none⟩ (.slice a n c')).setCell ⟨g+1,3,none⟩ (.int .i64 (t.fuel:Int))) (g+1) 30 #[.string (sB t.M),.int .i64 t.fn,.slice a n c',.int .i64 (t.fuel:Int)]:=
  ((((H.O.far (by simp) _).s_ 0 _).s_ 1 _).s_ 2 _).s_ 3 _
 have u:aa (λb=>b=g\/b=g+1) o (((((o.setCell ⟨g,2,none⟩ (.slice a n c')).setCell ⟨g+1,0,none⟩ (.string (sB t.M))).setCell ⟨g+1,1,none⟩ (.int .i64 t.fn)).setCell ⟨g+1,2,none⟩ (.slice a n c')).setCell ⟨g+1,3,none⟩ (.int .i64 (t.fuel:Int))):=
  (((((aa.refl _ o).setCell (p:=⟨g,2,none⟩) (.inl (.inl rfl)) _).setCell (p:=⟨g+1,0,none⟩) (.inl (.inr rfl)) _).setCell (p:=⟨g+1,1,none⟩) (.inl (.inr rfl)) _).setCell (p:=⟨g+1,2,none⟩) (.inl (.inr rfl)) _).setCell (p:=⟨g+1,3,none⟩) (.inl (.inr rfl)) _
 have l:=x.O;have a6:=q.O.lt;have a8:=B.O.size;have a9:=u.size;have a7:=y.O.size;refine bodyPost_ret (cy Tryz.results104 rfl P Tryz.underlying30 rfl (by kernel_rfl)) rfl ?_;refine⟨a,c',rfl,(L.O.kp u (λb j=>?_)).mo (λb j=>?_),?_⟩
 ·omega
 ·omega
 ·exact(y.O.trans B.O).trans' u (λb j=>.inr (by rcases j with j|j<;>omega))
def mH(x:Int):List Int->Int->Int
 | [],_=>-1
 |y :: l,k=>if x=y then k else mH x l (k+1)
theorem vD(x:Int):∀(l:List Int) (k:Int),0<=k->(0<=mH x l k↔x∈l)
 | [],k,b=>by simp[mH]
 |y :: l,k,b=>by
  unfold mH
  by_cases a:x=y
  ·rw[yf a];simp[a,b]
  ·rw[yb a,vD x l (k+1) (by omega)];simp[a]
theorem tV(g:Nat)(xs:List Int)(m:Nat)(x:Int)(w:World)(C:xs.length<=10)(o:ae w g 5 (xs.map (Value.int .u8)).toArray):
 Calls Tryz.prog 147 #[.slice (some ⟨g,0,none⟩) xs.length m,.int .u8 x] w λa w'=>a=.returned (.bool (decide (x∈xs)))/\w=w':=by
 have e:∀k,k<xs.length->w.cell? ⟨g,k,none⟩=some (.int .u8 (xs.getD k 0)):=λk q=>by
  rw[o.I];simp[yc,q]
 have l:=hD e;clear o e
 have s:Hd (Calls Tryz.prog 189 #[.slice (some ⟨g,0,none⟩) xs.length m,.int .u8 x] w λa w'=>a=.returned (.int .i64 (mH x xs 0))/\w=w'):=hD <| by
  obtain⟨r,j⟩:=eX (mH x xs 0);rw[<-j];have t:=hD j;clear j;go_enter Tryz.func189,Tryz.ntmps189;go_wp2_with fail
  go_loopw [8] (λi wr=>∃k:Nat,k<=xs.length/\i=.int .i64 k/\mH x (xs.drop k) k=r/\w=wr) (λi _=>xs.length-(intOf i).toNat)
  case atStart=>exact⟨0,by omega,rfl,by rw[t.O];rfl,rfl⟩
  case round=>
   obtain⟨k,q,rfl,b,rfl⟩:=hrel
   by_cases f:k<xs.length
   ·have D:(0:Int)<=(k:Int):=by omega
    have v:(k:Int)<(xs.length:Int):=by omega
    have e:=l.O k f;rw[yM f] at b;have z:xs.getD k 0=xs[k]:=by simp[yc,f]
    rw[z] at e;have B:w.cell? ((⟨g,0,none⟩ :Addr).add k)=some (.int .u8 xs[k]):=by rw[bg,yq];exact e
    unfold mH at b;generalize xs[k] =y at*
    by_cases a:x=y
    ·rw[yf a] at b
     have u:(x==y)=true:=beq_iff_eq.2 a;have d:=hD b;clear b a;go_wp2_with fail;go_ret;exact⟨by simp[d.O],rfl⟩
    ·rw[yb a] at b
     have u:(x==y)=false:=bF a;have d:=hD b;clear b a;go_wp2_with fail;go_roundw
     case rel=>exact⟨k+1,by omega,by go_num,d.O,trivial⟩
     case measure=>simp[intOf];omega
   ·have v:¬(k:Int)<(xs.length:Int):=by omega
    have:k=xs.length:=by omega
    subst this;rw[zq] at b;have d:=hD b;clear b;go_wp2_with fail;go_ret;exact⟨by rw[<-d.O];rfl,rfl⟩
 have p:decide (x∈xs)=decide (0<=mH x xs 0):=by rw[decide_eq_decide,vD x xs 0 (by omega)]
 rw[p];generalize mH x xs 0=r at*;clear p l;go_enter Tryz.func147,Tryz.ntmps147;go_wp2_with fail;refine s.O.mono ?_;rintro a E ⟨rfl,rfl⟩;go_wp2_with fail;go_ret;exact⟨rfl,rfl⟩
end
end Go.Proofs.YtmdocplknceilaaGreat
