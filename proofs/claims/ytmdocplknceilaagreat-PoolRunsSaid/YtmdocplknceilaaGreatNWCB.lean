import Derived.Test.YtmdocplknceilaaGreatNWBL
set_option linter.all false
set_option maxRecDepth 100000
set_option maxHeartbeats 4000000
namespace Go.Proofs.YtmdocplknceilaaGreat
section
open Go.RowKit Go.Maps
attribute [local simp] ew fe fD cL dP Region.binds dD dN Is ao Act.put
theorem B4(t l:Nat)(s:t<256)(r:l<256)(w:World):
 Calls Tryz.prog 14 #[.int .u8 (t:Int),.int .u8 (l:Int)] w λd w'=>d=.returned (.agg #[.int .i64 ((t % 4+1:Nat):Int),.int .i64 ((l % 3:Nat):Int),.int .i64 500])/\ac w w':=by
 obtain⟨e,c⟩:=eX (w.alloc (.cells #[.int .i64 0,.int .i64 0,.int .i64 0] 40));have a:ae e w.heap.size 40 #[.int .i64 0,.int .i64 0,.int .i64 0]:=by rw[c];exact bN
 have f:ac w e:=by rw[c];exact oR.alloc _
 obtain⟨k,m,n⟩:=a.gE3;have o:=a.fz 0;have p:=a.fz 1;have q:=a.fz 2;have g:=hD a;have i:=hD f;have j:=hD c.symm;clear c a f;go_enter Tryz.func14,Tryz.ntmps14;go_upto_region 1 with fail;rw[j.O];go_wp2_with fail;refine bodyPost_ret (bX Tryz.results14 rfl (cs:=#[.int .i64 ((t % 4+1:Nat):Int),.int .i64 ((l % 3:Nat):Int),.int .i64 500]) ?b Tryz.underlying40 rfl (by kernel_rfl)) rfl ?_
 case b=>
  have:=((g.O.s_ 0 (.int .i64 ((t:Int) % 4+1))).s_ 1 (.int .i64 ((l:Int) % 3))).s_ 2 (.int .i64 500);simp at this;exact this
 refine⟨rfl,?_⟩;exact i.O.trans' (((af _ w.heap.size 0 _).trans (af _ w.heap.size 1 _)).trans (af _ w.heap.size 2 _)) (λb d=>.inr (by rw[d];exact lR))
def xw(w w':World)(p:List ah)(il:Nat)(fuel pk:Int)(e:Ending):Prop:=∃b,e=.returned (.bool b)/\(b=false->p.length<=30/\il<=100/\fuel<=400/\pk<=2000/\∀x∈p,x.ops.length<=200)/\ac w w'
theorem Az(p:List ah)(A a1:Option Addr)(c j a8:Nat)(f l:Int)(F:Nat->Prop)(w:World)(V:fN w F A p):
 Calls Tryz.prog 10 #[aP p A c,.slice a1 j a8,.int .i64 f,.int .i64 l] w λa w'=>xw w w' p j f l a:=by
 obtain⟨n,G⟩:=eX p.length;obtain⟨v,s⟩:=eX (w.alloc (.cells #[.slice A n c] 24));obtain⟨am,y⟩:=eX w.heap.size;have N:ae v am 24 #[.slice A n c]:=by rw[s,y];exact bN
 have H:ac w v:=by rw[s];exact oR.alloc _
 have a6:=hD N;have a2:=hD (V.U H);have e:=hD H;have u:=hD G;have a5:=hD y;have L:=hD s.symm;unfold aP;rw[<-G];clear V G s H y N;go_enter Tryz.func10,Tryz.ntmps10;go_upto_region 1 with fail;rw[L.O,<-a5.O];clear L;go_wp2_with fail
 go_loopw [9,10] (λm i wr=>∃(k:Nat) (z:Int),k<=n/\k<=40/\m=.int .i64 z/\i=.int .i64 k/\(∀x∈p.take k,x.ops.length<=200)/\ac v wr) (λ_ i _=>40-(intOf i).toNat)
 case atStart=>exact⟨0,0,yx _,yx _,rfl,rfl,λx q=>by simp at q,oR⟩
 case round=>
  obtain⟨k,z,av,aw,rfl,rfl,o,g⟩:=hrel;have b0:=(g.J a6.O nF).I 0;simp at b0;have a7:=hD o;have d:=hD g;have a3:Hd (n<=k->∀x∈p,x.ops.length<=200):=hD λaz x q=>o x (by rw[List.take_of_length_le (by rw[<-u.O];exact az)];exact q)
  by_cases t:k<n
  ·by_cases D:k<40
   ·have b5:(0:Int)<=(k:Int):=dB k
    have W:(k:Int)<(n:Int):=cy t;have b4:(k:Int)<40:=by omega
    have X:k<p.length:=by rw[<-u.O];exact t
    have C:p[k]?=some p[k]:=gG X;generalize p[k] =x at*;obtain⟨b,b7,B,b2,an,b8,b9,b1,ar⟩:=(a2.O.U g).at_ C;subst an;obtain⟨m,E⟩:=eX x.ops.length;rw[<-E] at b1;have aE:wrap64 ((k:Int)+1)=(k:Int)+1:=cG D (by decide);have b6:=(aR _).trans aE;have K:=hD (aI E C);clear o g ar E C X av aw
    by_cases Y:(200:Int)<(m:Int)
    ·have al:decide ((200:Int)<(m:Int))=true:=yg Y
     go_wp2_with fail;go_ret;exact⟨_,rfl,λa=>(by cases a),e.O.trans d.O⟩
    ·have al:decide ((200:Int)<(m:Int))=false:=yd Y
     go_wp2_with fail;go_roundw
     case measure=>exact au rfl D
     case rel=>
      refine⟨k+1,_,t,D,rfl,rfl,λa0 Z=>?_,d.O⟩;rw[yO,K.O.2] at Z
      rcases yH.1 Z with a|a
      ·exact a7.O a0 a
      ·have:a0=x:=by simpa using a
       rw[this,<-K.O.1];omega
   ·have b3:¬(k:Int)<40:=by omega
    have W:(k:Int)<(n:Int):=cy t;have r:(30:Int)<(n:Int):=by omega
    have P:decide ((30:Int)<(n:Int))=true:=yg r;clear o g;go_wp2_with fail;go_ret;exact⟨_,rfl,λa=>(by cases a),e.O.trans d.O⟩
  ·have W:¬(k:Int)<(n:Int):=by omega
   clear o g
   by_cases r:(30:Int)<(n:Int)
   ·have P:decide ((30:Int)<(n:Int))=true:=yg r
    go_wp2_with fail;go_ret;exact⟨_,rfl,λa=>(by cases a),e.O.trans d.O⟩
   have P:decide ((30:Int)<(n:Int))=false:=yd r
   by_cases Q:(2048:Int)<z
   ·have a9:decide ((2048:Int)<z)=true:=yg Q
    go_wp2_with fail;go_ret;exact⟨_,rfl,λa=>(by cases a),e.O.trans d.O⟩
   have a9:decide ((2048:Int)<z)=false:=yd Q
   by_cases R:(100:Int)<(j:Int)
   ·have ab:decide ((100:Int)<(j:Int))=true:=yg R
    go_wp2_with fail;go_ret;exact⟨_,rfl,λa=>(by cases a),e.O.trans d.O⟩
   have ab:decide ((100:Int)<(j:Int))=false:=yd R
   by_cases S:(400:Int)<f
   ·have ad:decide ((400:Int)<f)=true:=yg S
    go_wp2_with fail;go_ret;exact⟨_,rfl,λa=>(by cases a),e.O.trans d.O⟩
   have ad:decide ((400:Int)<f)=false:=yd S
   by_cases T:(2000:Int)<l
   ·have ai:decide ((2000:Int)<l)=true:=yg T
    go_wp2_with fail;go_ret;exact⟨_,rfl,λa=>(by cases a),e.O.trans d.O⟩
   have ai:decide ((2000:Int)<l)=false:=yd T;have a4:Hd (p.length<=30/\j<=100/\f<=400/\l<=2000/\∀x∈p,x.ops.length<=200):=hD ⟨by rw[<-u.O];omega,by omega,by omega,by omega,λx q=>a3.O (by omega) x q⟩;go_wp2_with fail;go_ret;exact⟨_,rfl,λ_=>a4.O,e.O.trans d.O⟩
end
end Go.Proofs.YtmdocplknceilaaGreat
