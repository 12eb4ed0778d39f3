import Derived.Test.YtmdocplknceilaaGreatNWBF
set_option linter.all false
set_option maxRecDepth 100000
set_option maxHeartbeats 8000000
namespace Go.Proofs.YtmdocplknceilaaGreat
section
open Go.RowKit Go.Maps
def xu(w w':World)(rb:Nat)(L:gO)(p:List ah)(t:aj)(s:eh)(o:bI)(e:Ending):Prop:=
 ∃A6 c6 iv,e=.returned (.tuple #[.agg (bO (dc p t.M s.kd o s.rg s.left) A6 c6),.int .i64 0])/\aL w' (bC w w') A6 (dc p t.M s.kd o s.rg s.left).args/\
  cu w' rb {L with iv:=iv} p t {s with left:=s.left-s.left / 2,kd:=s.kd+1,into:=s.into++ [o.d]}/\(∀b,iv.ownBlock=some b->L.iv.ownBlock=some b\/w.heap.size<=b)/\aa (λb=>b=rb\/L.iv.ownBlock=some b) w w'
theorem bP{w:World}{base:Nat}{b:TypeId}{f n:Nat}{v:Value}{xs:List Value}(d:w.ownsRow base b f v n xs):∃A c,v=.slice A n c:=by
 rcases d.2 with⟨a,e⟩|⟨g,i,_,a,_⟩
 ·exact⟨none,0,by rw[a,e]⟩
 ·exact⟨_,_,a⟩
theorem ww{w:World}{base:Nat}{e:TypeId}{j n b:Nat}{v:Value}{xs:List Value}{c:Nat}(f:w.ownsRow base e j v n xs)(a:v=.slice (some ⟨b,0,none⟩) n c):∃k,ae w b e k:=by
 rcases f.2 with⟨d,_⟩|⟨g,o,cur,d,_,i,_⟩
 ·rw[d] at a;cases a
 ·rw[d] at a
  cases a
  exact⟨cur,i⟩
theorem cu.appended{w w' f:World}{rb:Nat}{L:gO}{p:List ah}{t:aj}{s:eh}{e:Value}(d:Int)(c:cu w rb L p t s)(g:aa (λb=>L.iv.ownBlock=some b) w w')(n:aa (λb=>b=rb) w' f)
 (k:w'.ownsRow 0 3 1 e (s.into.length+1) (s.into.map (Value.int .i64)++ [.int .i64 d])) (o:ae f rb 112 (cT {L with iv:=e} p.length t {s with into:=s.into++ [d]})):
 cu f rb {L with iv:=e} p t {s with into:=s.into++ [d]}:=by
 have j:ae w' rb 112 (cT L p.length t s):=g.J c.J (λa=>aB c.into c.J (by decide) a);have i:ae w' L.gb 2 (s.rg.map (Value.int .i64)).toArray:=g.J c.rg (λa=>aB c.into c.rg (by decide) a);refine⟨o,n.J i (λa=>ae.ne_ i j (by decide) a),?_,c.cap⟩;have:=n.owns k (λb q a=>aB k j (by decide) (by rw[q,a]));show f.ownsRow 0 3 1 e (s.into++ [d]).length ((s.into++ [d]).map (Value.int .i64));rw[yk,yS];exact this
theorem vE{H:Array Oper}{o:Oper}{a:Act}{W:World}{e:Act->World->Prop}{Q:Exit->Act->World->Prop}{g:Prop}{q:Nat}{d:Int}(y:o.guard=none)(s x:Operand)
 (A:o.op=.call {callee:=.builtin .append,args:=#[s,x],argTypes:=#[110,110]}) (v:Value) (C:a.eval s=v) (E:a.eval x=.slice (some ⟨q,0,none⟩) 1 1)
 (n:Nat) (xs:List Value) (B:W.ownsRow 0 3 1 v n xs) (f:ae W q 3 #[.int .i64 d]) (K:n<16)
 (k:∀c w',w'.ownsRow 0 3 1 c (n+1) (xs++ [.int .i64 d])->W.grownBy w' v.ownBlock->(c.ownBlock=v.ownBlock\/c.ownBlock=some W.heap.size)->e (a.put o.dst c) w'):
 if Region.wanted o (yielded H a.tmps)=true then Oper.wp Tryz.prog o a W e Q else g:=by
 obtain⟨i,z,G,D,r⟩:=ve;refine kj W y s x 110 A 0 3 i _ 1 8 Tryz.underlying110 z G D r rfl (by decide) v n xs C B W.heap.size (some ⟨q,0,none⟩) 1 1 [.int .i64 d] E ⟨rfl,λ_=>⟨⟨q,0,none⟩,rfl,f.lt,λj u b=>?_⟩⟩ (λu b=>by cases b with|head=>rfl|tail _ h=>cases h) (by unfold maxLen;omega) (by omega) (yx _) k;rw[bw,yq,f.I]
 cases j with
 |zero=>exact b
 |succ j=>simp at b
def Ew(w wx:World)(g g9 rb:Nat)(L:gO)(p:List ah)(t:aj)(s:eh)(ops:Array Value)(kp:ByteArray)(fn m hf:Nat)(xs:List Int):Prop:=
 ∃A6 c6,ac w wx/\ae wx g9 30 #[.string kp,.int .i64 (fn:Int),.slice A6 m c6,.int .i64 (hf:Int)]/\cu wx rb L p t s/\aL wx (bC w wx) A6 xs/\ae wx g 106 ops/\ae wx (g+1) 30 #[.string ⟨#[]⟩,.int .i64 0,.slice none 0 0,.int .i64 0]
def DE(w wx:World)(g g9 rb:Nat)(L:gO)(p:List ah)(t:aj)(s:eh)(kp:ByteArray)(fn m hf:Nat)(xs:List Int)(A6:Option Addr)(c6:Nat):Prop:=
 ∃iv,cu wx rb {L with iv:=iv} p t s/\ae wx g9 30 #[.string kp,.int .i64 (fn:Int),.slice A6 m c6,.int .i64 (hf:Int)]/\aL wx (bC w wx) A6 xs/\ae wx (g+1) 30 #[.string ⟨#[]⟩,.int .i64 0,.slice none 0 0,.int .i64 0]/\
  (∀b,iv.ownBlock=some b->L.iv.ownBlock=some b\/w.heap.size<=b)/\aa (λb=>b=rb\/L.iv.ownBlock=some b) w wx
section
variable {w:World}{rb:Nat}{L:gO}{p:List ah}{t:aj}{s:eh}
theorem El(F:Nat->Prop)(k d b:Int)(a fn:Nat)(x:ah)(fa:fN w F L.PA p)(d5:cu w rb L p t s)(j:s.kd<16)(fs:fT t.M)(fr:t.M.length<12)(bk:p[fn]?=some x)(fv:0<=x.args)(H:x.args=0\/(a:Int)+x.args<=s.rg.length)
 (a3:s.rg.length<=1000) (a1:s.left<=1000000) (fm:s.into.length<16):
 Calls Tryz.prog 42 #[.pointer (some ⟨rb,0,none⟩),cR ⟨k,d,a,b,fn⟩] w λe w'=>xu w w' rb L p t s ⟨k,d,a,b,fn⟩ e:=by
 unfold cR;obtain⟨b0,b6⟩:=eX (w.alloc (.cells #[.int .u8 k,.int .i64 d,.int .i64 (a:Int),.int .i64 b,.int .i64 (fn:Int)] 106));obtain⟨D,cd⟩:=eX (b0.alloc (.cells #[.string ⟨#[]⟩,.int .i64 0,.slice none 0 0,.int .i64 0] 30));have g6:ac w b0:=by rw[b6];exact(aa.refl _ w).alloc _
 have e3:ac b0 D:=by rw[cd];exact oR.alloc _
 obtain⟨g,ch⟩:=eX w.heap.size;have eL:ae D g 106 #[.int .u8 k,.int .i64 d,.int .i64 (a:Int),.int .i64 b,.int .i64 (fn:Int)]:=e3.J (by rw[b6,ch];exact bN) nF;have f2:ae D (g+1) 30 #[.string ⟨#[]⟩,.int .i64 0,.slice none 0 0,.int .i64 0]:=by rw[cd];have:=ae.new b0 30 #[.string ⟨#[]⟩,.int .i64 0,.slice none 0 0,.int .i64 0];rw[show b0.heap.size=g+1 by rw[b6,ch];simp] at this;exact this
 have cp:=g6.trans e3;have a0:=d5.U cp;have en:=hD (show((w.alloc (.cells #[.int .u8 k,.int .i64 d,.int .i64 (a:Int),.int .i64 b,.int .i64 (fn:Int)] 106)).alloc (.cells #[.string ⟨#[]⟩,.int .i64 0,.slice none 0 0,.int .i64 0] 30))=D by rw[cd,b6]);have go:=hD a0;have gs:=hD eL;have gx:=hD f2;have bz:=hD cp;have ee:=hD ch;have a7:=a0.J.I 8;simp[cT] at a7;obtain⟨kp,dl⟩:=eX (sB (t.M++ [UInt8.ofNat (s.kd+1)]))
 have cB:Hd (∀W,Calls Tryz.prog 82 #[.string (sB t.M),.int .i64 ((s.kd:Int)+1)] W λe w'=>e=.returned (.tuple #[.string kp,.bool true])/\ac W w'):=hD λW=>by
  have:=sj t.M fs (s.kd+1) (Yh 1 _) j W;have e:=ky s.kd;rw[e] at this;unfold lV at this;rw[yb (Yl fr),<-dl] at this;exact this
 obtain⟨m,b7⟩ :∃m:Nat,x.args=(m:Int):=ym fv
 have em:Hd (dc p t.M s.kd ⟨k,d,a,b,fn⟩ s.rg s.left=⟨t.M++ [UInt8.ofNat (s.kd+1)],(fn:Int),(s.rg.drop a).take m,s.left / 2⟩):=hD (by
  have hj:bG p (fn:Int)=x:=by unfold bG;rw[yo,yc,bk];rfl
  unfold dc;simp only;rw[hj,b7];rfl)
 have eg:Hd (((s.rg.drop a).take m).length=m):=hD (nQ b7 H);obtain⟨pl,dp⟩:=eX p.length;have dm:=(gS bk).1;rw[<-dp] at dm;obtain⟨hu,hy,B,hP,f9,bo,_,_,_⟩:=(fa.U cp).at_ bk;rw[b7] at bo;have el:=hD bo;have ek:=hD (aI f9 dp);have h3:=hD dm;have h2:=hD dl;have gr:=hD b7;have gN:=hD d5;have hN:=hD bk;have ar:=hD (aI H (aI a3 (aI a1 fm)));have dv:=kJ j;have ft:=(aR _).trans dv;have dd:=sL j;have ff:decide ((16:Int)<=(s.kd:Int))=false:=yd dd;obtain⟨V,ck⟩:=eX s.kd;rw[<-ck] at a7 ft dv dd ff j cB
 have a9:Hd (∀W,ac D W->ac D W/\W.cell? ⟨rb,1,none⟩=some (.string (sB t.M))/\W.cell? ⟨rb,8,none⟩=some (.int .i64 (V:Int))):=hD λW ab=>by
  have q:=(a0.U ab).J;refine⟨ab,q.I 1,?_⟩;rw[q.I 8];simp[cT,<-ck]
 have d0:=hD (aI ck j);have d8:=a9.O D oR;clear d5 fa j fs fr bk fv H a3 a1 fm b6 cd g6 e3 ch eL f2 cp a0 ck dl b7 f9 dp dm bo;go_enter Tryz.func42,Tryz.ntmps42;go_upto_region 1 with fail;rw[en.O,<-ee.O];clear en;go_upto_region 3 with fail
 go_region_held3 (λw'=>ac D w'/\w'.cell? ⟨rb,1,none⟩=some (.string (sB t.M))/\w'.cell? ⟨rb,8,none⟩=some (.int .i64 (V:Int)))
  (first|exact a9.O _ (yt ‹_›)|exact a9.O _ (aa.drew (yt ‹_›))|exact a9.O _ (aa.trans (aa.drew (yt ‹_›)) K)|exact a9.O _ (aa.trans (yt ‹_›) K)|fail)
  (first|(go_at_call 82;refine(cB.O _).mono ?_;rintro e d3 ⟨rfl,K⟩)|fail)
 have az:Hd (ac D d3):=hD (yt ‹_›);clear d8 K a9 cB ft dv dd ff a7;have d7:=go.O.U az.O;have gp:=hD d7;have e8:=hD (az.O.J gs.O nF);have gA:=hD (az.O.J gx.O nF);have f4:=d7.J.I 0;simp[cT,ek.O.1,<-ek.O.2] at f4;have gm:=e8.O.I 4;simp at gm;have bo:=(az.O.I (p:=⟨hu,hy+fn*3,none⟩) (block_lt_of_cell el.O) nF).trans el.O;obtain⟨dw,ho⟩:=ca h3.O;clear d7;go_upto_region 6 with fail
 go_quiet (fail)
 obtain⟨P,d9⟩:=eX (d3.drewN nq);rw[<-d9];have bm:ac d3 P:=by rw[d9];exact oR.drewN nq
 have er:=hD (az.O.trans bm);have e7:=hD (gp.O.U bm);have e9:=hD (bm.J e8.O nF);have eb:=hD (bm.J gA.O nF);clear d9 bm f4 gm bo dw ho;have dq:=DB s.left;have cn:=uF (va ar.O.2.2.1);have dr:=(aR _).trans cn;obtain⟨C,a1⟩:=eX s.left;obtain⟨f,dk⟩:=eX (C / 2);rw[<-a1] at dq cn dr;rw[<-dk] at dq cn dr
 have a8:Hd (∀W,ac P W->ac P W/\W.cell? ⟨g,4,none⟩=some (.int .i64 (fn:Int))/\W.cell? ⟨rb,7,none⟩=some (.int .i64 (C:Int))):=hD λW ab=>
  ⟨ab,(ab.J e9.O nF).I 4,by rw[(e7.O.U ab).J.I 7,a1];rfl⟩
 have a6:=hD (aI a1 dk);clear a1 dk;have d8:=a8.O P oR;go_upto_region 7 with fail
 go_region_held3 (λw'=>ac P w'/\w'.cell? ⟨g,4,none⟩=some (.int .i64 (fn:Int))/\w'.cell? ⟨rb,7,none⟩=some (.int .i64 (C:Int)))
  (first|exact a8.O _ (yt ‹_›)|exact a8.O _ (aa.drew (yt ‹_›))|exact a8.O _ (aa.alloc (yt ‹_›) _)|exact a8.O _ (aa.alloc (aa.drew (yt ‹_›)) _)|fail) (fail)
 obtain⟨b1,ce⟩:=eX ((P.alloc (.cells #[.string kp,.int .i64 (fn:Int),.slice none 0 0,.int .i64 (f:Int)] 30)).drew);obtain⟨G,b8⟩:=eX P.heap.size;rw[<-ce,<-b8];have K:ac P b1:=by rw[ce];exact(oR.alloc _).drew
 have f0:ae b1 G 30 #[.string kp,.int .i64 (fn:Int),.slice none 0 0,.int .i64 (f:Int)]:=by rw[ce,b8];exact bN.drew
 have br:=hD f0;have es:=hD (er.O.trans K);have bp:=hD (e7.O.U K);have cq:=hD (K.J e9.O nF);have ec:=hD (K.J eb.O nF);have ef:Hd (g+1<G/\w.heap.size<=G):=hD ⟨by rw[b8];exact eb.O.lt,by rw[b8];exact(bz.O.trans er.O).size⟩;clear d8 ce b8 K f0 dq cn dr a8
 go_upto_if 53 with fail
 go_cut [] (λwx=>Ew w wx g G rb L p t s #[.int .u8 k,.int .i64 d,.int .i64 (a:Int),.int .i64 b,.int .i64 (fn:Int)] kp fn m f ((s.rg.drop a).take m))
 case rest=>
  obtain⟨o,Q,N,b3,f8,g2,f1,f3⟩:=hcut;obtain⟨i,ad⟩:=eX wc;subst ad;have av:=hD b3;have aE:=hD N;have r:=hD f8;have d1:=hD g2;have bt:=hD f1;have bv:=hD f3;clear b3 N f8 g2 f1 f3;have f5:=r.O.J.I 7;simp[cT,<-a6.O.1] at f5;have hd:=r.O.J.fz 7;have a7:=r.O.J.I 8;simp[cT,<-d0.O.1] at a7;have he:=r.O.J.fz 8;have hc:i.cell? ⟨G,3,none⟩=some (.int .i64 (f:Int)):=av.O.I 3;obtain⟨v1,v2⟩:=nC (ar.O.2.2.1) a6.O.1 a6.O.2;have v3:=kJ d0.O.2;have v4:=(aR _).trans v3;go_upto_region 10 with fail
  go_still_tail 8,(by kernel_rfl)
  change wpList _ _ _ _ _ i.drew;go_upto_region 12 with fail;obtain⟨W8,cf⟩:=eX (((i.setCell ⟨rb,7,none⟩ (.int .i64 ((C-f:Nat):Int))).setCell ⟨rb,8,none⟩ (.int .i64 ((V:Int)+1))).drew);rw[<-cf];have bn:aa (λb=>b=rb) i W8:=by rw[cf];exact((af _ _ _ _).trans (af _ _ _ _)).drew
  have R:cu W8 rb L p t {s with left:=C-f,kd:=V+1}:=by
   have:=((r.O.left_set (C-f)).kids_set (V+1)).U ((aa.refl (λ_=>False) _).drew);rw[cf];exact this
  have an:=hD R;have c1:=hD bn;have gw:=hD (bn.J bt.O (λe=>ae.ne_ bt.O r.O.J (by decide) e));have cs:=hD (bn.J av.O (λe=>ae.ne_ av.O r.O.J (by decide) e));have cv:=hD (bn.J bv.O (λe=>ae.ne_ bv.O r.O.J (by decide) e));obtain⟨X,Z,b9⟩ :∃X Z,L.iv=.slice X s.into.length Z:=bP R.into;obtain⟨z,ba⟩:=eX s.into.length;rw[<-ba] at b9;have cw:=hD b9;have ej:=hD ba;have ha:W8.cell? ⟨rb,10,none⟩=some (.slice X z Z):=by rw[R.J.I 10];simp[cT,b9]
  have hS:=R.J.fz 10;have hQ:W8.cell? ⟨g,1,none⟩=some (.int .i64 d):=gw.O.I 1;have hT:∀e4,(W8.alloc e4).cell? ⟨rb,10,none⟩=some (.slice X z Z):=λe4=>(World.cell?_alloc_lt W8 e4 ⟨rb,10,none⟩ R.J.lt).trans ha
  have dn:W8.ownsRow 0 3 1 (.slice X z Z) z (s.into.map (Value.int .i64)):=by
   have:=R.into;rw[b9] at this;show W8.ownsRow 0 3 1 (.slice X z Z) z (s.into.map (Value.int .i64));rw[ba];rw[ba] at this;exact this
  have aw:=hD dn;have fp:some rb≠(Value.slice X z Z).ownBlock:=λe=>aB dn R.J (by decide) e.symm
  clear cf bn R b9 ba dn f5 hd a7 he hc v1 v2 v3 v4
  go_cut [] (λwx=>DE w wx g G rb L p t {s with left:=C-f,kd:=V+1,into:=s.into++ [d]} kp fn m f ((s.rg.drop a).take m) o Q)
  case first=>
   go_region_law (
    refine vE rfl _ _ rfl _ rfl rfl z (s.into.map (Value.int .i64)) (aa.owns (S:=λ_=>False) (by repeat (first|with_reducible exact oR|with_reducible refine aa.drew ?_|with_reducible refine aa.alloc ?_ _)) aw.O nG) (by first|exact bN|exact bN.drew) (by rw[ej.O];exact ar.O.2.2.2) (λg8 w' dz e0 g4=>?_);obtain⟨e1,e2,rfl⟩:=mr dz;have T:=mY (W8:=W8) e0 (by repeat (first|with_reducible exact oR|with_reducible refine aa.drew ?_|with_reducible refine aa.alloc ?_ _));have fq:=rE (W8:=W8) g4 (by repeat (first|with_reducible exact oR|with_reducible refine aa.drew ?_|with_reducible refine aa.alloc ?_ _));have kb:=ae.grown (aa.J (S:=λ_=>False) (by repeat (first|with_reducible exact oR|with_reducible refine aa.drew ?_|with_reducible refine aa.alloc ?_ _)) an.O.J nF) e0 fp;have g5:=kb.I 10;have ht:=kb.fz 10;simp[cT] at g5)
   all_goals (
    obtain⟨W9,db⟩:=eX (w'.setCell ⟨rb,10,none⟩ (.slice (some ⟨e1,0,none⟩) (z+1) e2));rw[<-db];have am:aa (λb=>b=rb) w' W9:=by rw[db];exact af _ _ _ _
    have c9:cu W9 rb {L with iv:=.slice (some ⟨e1,0,none⟩) (z+1) e2} p t {s with left:=C-f,kd:=V+1,into:=s.into++ [d]}:=by
     refine an.O.appended (s:={s with left:=C-f,kd:=V+1}) d (by rw[cw.O];exact T) am (by rw[<-ej.O];exact dz) (by rw[db];exact kb.s_ 10 _)
    have b4:=am.J (T.J cs.O (λe=>aB aw.O cs.O (by decide) e)) (λe=>ae.ne_ cs.O an.O.J (by decide) e);have c6:=am.J (T.J cv.O (λe=>aB aw.O cv.O (by decide) e)) (λe=>ae.ne_ cv.O an.O.J (by decide) e)
    have c0:aL W9 (bC w W9) o ((s.rg.drop a).take m):=by
     have g3:=d1.O.by_type c1.O r.O.J (by decide)
     have hs:aL w' (bC w i) o ((s.rg.drop a).take m):=by
      rcases dj aw.O with⟨n,_⟩|⟨kb,c,n,_,_,_,_⟩
      ·exact g3.kp T (λb _ e=>by rw[n] at e;cases e)
      ·obtain⟨i0,hn⟩:=ww aw.O n
       exact g3.by_type (q:=kb) (T.mono λb e=>by rw[n] at e;exact(yz e).symm) hn (by decide)
     exact(hs.by_type am (T.J an.O.J (λe=>fp e.symm)) (by decide)).mo λb A=>⟨A.1,lL A.2 (lT c1.O.size (lT T.size am.size))⟩
    have ci:∀b,(Value.slice (some ⟨e1,0,none⟩) (z+1) e2).ownBlock=some b->L.iv.ownBlock=some b\/w.heap.size<=b:=λb e=>by
     rcases fq b e with n|n
     ·exact .inl (by rw[cw.O];exact n)
     ·exact .inr (lT (lT aE.O.size c1.O.size) n)
    have d2:Hd (aa (λb=>b=rb\/L.iv.ownBlock=some b) w W9):=hD ((((aE.O.mono λ_ e=>e.elim).trans (c1.O.mono λb e=>.inl e)).trans (T.mono λb e=>.inr (by rw[cw.O];exact e))).trans (am.mono λb e=>.inl e));clear g5 ht dz e0 g4 fq;go_wp2_with fail;go_meet
    case rel=>exact⟨_,c9,b4,c0,c6,ci,d2.O⟩)
  case rest=>
   obtain⟨hr,c9,b4,c0,c6,ci,g7⟩:=hcut;have d2:=hD g7;have bq:=hD c9;have hL:=hD b4;have a5:=hD c6;have h0:=hD c0;have h1:=hD ci;obtain⟨gb,gc,ge,gf⟩:=b4.gE4;clear c9 b4 c6 c0 ci g7
   go_wp2_with (refine kr rfl 30 (.tmp 4) (.tmp 97) rfl rfl rfl (xh a5.O rfl _ _ _ _ _ _) ?_)
   obtain⟨f7,b5⟩:=wZ a5.O rfl (.string kp) (.int .i64 (fn:Int)) (.slice o m Q) (.int .i64 (f:Int));obtain⟨hO,fd⟩:=eX (((((wc.setCell ⟨g+1,0,none⟩ (.string kp)).setCell ⟨g+1,1,none⟩ (.int .i64 (fn:Int))).setCell ⟨g+1,2,none⟩ (.slice o m Q)).setCell ⟨g+1,3,none⟩ (.int .i64 (f:Int))));rw[<-fd] at f7 b5;rw[<-fd];refine bodyPost_ret (aW Tryz.results42 rfl f7 Tryz.underlying30 rfl (by kernel_rfl)) rfl ?_;have fk:s.left / 2=f:=by rw[a6.O.2,a6.O.1]
   have hl:C-f=s.left-s.left / 2:=by rw[fk,a6.O.1]
   refine⟨o,Q,hr,?_,?_,?_,h1.O,d2.O.trans' b5 (λb e=>.inr (by rw[e,ee.O];exact yX _))⟩
   ·rw[em.O]
    unfold bO;simp only;rw[eg.O,<-h2.O,fk];rfl
   ·rw[em.O]
    exact(h0.O.by_type b5 a5.O (by decide)).mo λb A=>⟨A.1,lL A.2 b5.size⟩
   ·rw[<-hl,<-d0.O.1]
    exact bq.O.kp b5 (λe=>ae.ne_ a5.O bq.O.J (by decide) e.symm) (λe=>ae.ne_ a5.O bq.O.rg (by decide) e.symm) (λb A e=>aB bq.O.into a5.O (by decide) (by rw[A,e]))
 case first=>
  by_cases a2:m=0
  ·have hV:decide ((0:Int)<(m:Int))=false:=by rw[a2];rfl
   have hW:¬(0:Int)<(m:Int):=by rw[a2];decide
   have ei:=hD a2;clear a2;go_wp2_with fail;go_meet
   case rel=>
    refine⟨none,0,bz.O.trans es.O,?_,bp.O,.inl ⟨rfl,by rw[ei.O,List.take_zero]⟩,cq.O,ec.O⟩;rw[ei.O];exact br.O
  ·have hX:(0:Int)<(m:Int):=Be a2
   have H:a+m<=s.rg.length:=sr a2 gr.O ar.O.1;have a3:=ar.O.2.1;have cg:=bp.O.cap;have e5:=bp.O.J.I 5;simp[cT] at e5;have g9:=cq.O.I 2;have gn:=br.O.I 2;have hG:=br.O.fz 2;simp at g9 gn;obtain⟨rl,bf⟩:=eX s.rg.length;obtain⟨hz,bb⟩:=eX L.rc;obtain⟨c7,ai⟩:=eX L.gb;rw[<-bf,<-bb,<-ai] at e5;rw[<-bf] at H a3 cg;rw[<-bb] at cg;obtain⟨h9,cb⟩:=eX (a+m);obtain⟨hA,hB,hY,hC,hE,hF⟩:=pR H a3 cg;have hJ:Hd (a+m<=rl):=hD H;have eq:Hd (m<=100000):=hD (AD H a3);have hZ:h9-a=m:=by rw[cb];exact Nat.add_sub_cancel_left a m
   rw[<-cb] at hA hB hC hE hF;have hI:=hD cb;have h5:=hD (aI bf (aI bb ai));clear bf bb ai H a3 cg cb;go_wp2_with fail
   go_still_tail 13,(by kernel_rfl)
   change wpList _ _ _ _ _ b1.drew;obtain⟨E,da⟩:=eX b1.drew;rw[<-da];have al:ac b1 E:=by rw[da];exact oR.drew
   have c8:=bp.O.U al
   have fb:aL E (λb=>b=c7) (some ⟨c7,a,none⟩) ((s.rg.drop a).take m):=by
    obtain⟨bf,bb,ai⟩:=h5.O;refine .inr ⟨c7,a,rfl,λ_=>⟨rfl,_,by rw[ai];exact c8.rg⟩,λk j=>⟨rfl,?_⟩⟩;have fo:k<m/\a+k<s.rg.length:=oL j;rw[ai,c8.reg fo.2];simp[yc,zN,fo.1]
   have ds:=vQ fb;rw[eg.O] at ds;obtain⟨dw,fl,fw,fx,g0⟩:=mI;have bx:=hD (aI fl (aI fw (aI fx g0)));have h6:=hD ds;have gq:=hD c8;have ex:=hD (es.O.trans al);have gt:=hD (al.J cq.O nF);have gB:=hD (al.J ec.O nF);have gu:=hD (al.J br.O nF);have h4:Hd (E.ownsRow E.heap.size 2 1 (.slice none 0 0) 0 []):=hD ⟨rfl,.inl ⟨rfl,rfl⟩⟩;clear da al c8 fb ds fl fw fx g0 e5 g9 gn hG
   go_wp2_with (at_builtin;refine fV _ rfl _ _ 25 rfl E.heap.size 2 dw (.int .i64 0) 1 8 Tryz.underlying25 bx.O.1 bx.O.2.1 bx.O.2.2.1 bx.O.2.2.2 rfl (by decide) _ _ _ rfl h4.O E.heap.size (some ⟨c7,a,none⟩) m (hz-a) (((s.rg.drop a).take m).map (Value.int .i64)) ?c6 h6.O ?c2 ?c3 ?c4 ?c5 ?_)
   case c2=>intro u hm;obtain⟨y,_,rfl⟩:=yL.1 hm;rfl
   case c3=>rw[yq];exact lT eq.O (by unfold maxLen;decide)
   case c4=>rw[yq];exact lT (zP 8 eq.O) (by decide)
   case c5=>simp
   intro g8 b2 cm fj hk;have a4:ac E b2:=(aa.refl (λ_=>False) E).grown fj (λk j=>by simp[Value.ownBlock] at j)
   obtain⟨o,Q,hv,g1⟩ :∃e6 c',g8=.slice e6 m c'/\aL b2 (bC E b2) e6 ((s.rg.drop a).take m):=by
    rw[<-List.map_drop,<-List.map_take] at cm
    rcases cm.2 with⟨n,f6⟩|⟨g,hb,cur,n,f6,d4,hR⟩
    ·exact absurd f6 a2
    ·refine⟨some ⟨g,0,none⟩,hb,n,.inr ⟨g,0,rfl,λ_=>⟨⟨by assumption,(yu.1 d4).1⟩,cur,d4⟩,λk j=>⟨⟨by assumption,(yu.1 d4).1⟩,?_⟩⟩⟩
     have a0:=cm;rw[n] at a0;have:=a0.cells (g:=g) rfl k (.int .i64 (((s.rg.drop a).take m).getD k 0)) (by rw[yJ,gG j,yc,gG j];rfl);rw[bw,yq] at this;rw[yq];exact this
   subst hv;have h7:=hD g1;have Y:=a4.J gu.O nF;obtain⟨gb,gc,ge,gf⟩:=Y.gE4;have hf:=Y.fz 0;have hg:=Y.fz 1;have hh:=Y.fz 2;have hi:=Y.fz 3;have cr:=hD Y;have hM:=hD a4;have h8:=hD (ex.O.trans a4);have hH:=hD (gq.O.U a4);have ea:=hD (a4.J gt.O nF);have gD:=hD (a4.J gB.O nF);clear cm fj hk a4 g1 Y;go_wp2_with fail;obtain⟨i,ad⟩:=eX (b2.setCell ⟨G,2,none⟩ (.slice o m Q));rw[<-ad];have N:aa (λb=>b=G) b2 i:=by rw[ad];exact af _ _ _ _
   have b3:ae i G 30 #[.string kp,.int .i64 (fn:Int),.slice o m Q,.int .i64 (f:Int)]:=by rw[ad];exact cr.O.s_ 2 _
   have av:=hD b3;have aE:Hd (ac w i):=hD ((bz.O.trans h8.O).trans' N (λb e=>.inr (by rw[e];exact ef.O.2)));have r:Hd (cu i rb L p t s):=hD (gN.O.U aE.O);have d1:Hd (aL i (bC w i) o ((s.rg.drop a).take m)):=hD ((h7.O.by_type N cr.O (by decide)).mo (λb A=>⟨lT (bz.O.trans ex.O).size A.1,lL A.2 N.size⟩));have bt:Hd (ae i g 106 #[.int .u8 k,.int .i64 d,.int .i64 (a:Int),.int .i64 b,.int .i64 (fn:Int)]):=hD (N.J ea.O (λe=>ae.ne_ ea.O cr.O (by decide) e));have bv:Hd (ae i (g+1) 30 #[.string ⟨#[]⟩,.int .i64 0,.slice none 0 0,.int .i64 0]):=hD (N.J gD.O (λe=>by have:=ef.O.1;rw[e] at this;exact absurd this (yQ _)));clear ad N b3 gb gc ge gf hf hg hh hi;go_meet
   case rel=>exact⟨o,Q,aE.O,av.O,r.O,d1.O,bt.O,bv.O⟩
end
def md(x:aD):List Value:=[.int .i64 x.v,.int .i64 x.e]
def ju(w:World)(v:Value)(l:List aD):Prop:=w.ownsRow 0 35 2 v l.length (l.flatMap md)
theorem Dx:∀(l:List aD) (i:Nat) (x:aD),l[i]?=some x->(l.flatMap md)[i*2]?=some (.int .i64 x.v)/\(l.flatMap md)[i*2+1]?=some (.int .i64 x.e)
 | [],i,x,a=>by simp at a
 |y :: l,0,x,a=>by
  simp at a;subst a;exact⟨rfl,rfl⟩
 |y :: l,i+1,x,a=>by
  have:=Dx l i x (by simpa using a);have b:(i+1)*2=i*2+2:=by omega
  rw[b];simp only[yZ,md,Ye,List.nil_append,List.getElem?_cons_succ];exact⟨this.1,this.2⟩
theorem ju.at_{w:World}{v:Value}{l:List aD}(a:ju w v l){i:Nat}{x:aD}(f:l[i]?=some x):∃b c,v=.slice (some ⟨b,0,none⟩) l.length c/\w.cell? ⟨b,i*2,none⟩=some (.int .i64 x.v)/\w.cell? ⟨b,i*2+1,none⟩=some (.int .i64 x.e):=by
 have A:=(gS f).1
 rcases a.2 with⟨_,y⟩|⟨g,j,cur,q,_,z,_⟩
 ·omega
 ·subst q
  have d:=λk u r=>World.ownsRow.cells a (g:=g) rfl k u r
  obtain⟨n,o⟩:=Dx l i x f;refine⟨g,j,rfl,?_,?_⟩
  ·have:=d _ _ n
   rwa [bw,yq] at this
  ·have:=d _ _ o
   rwa [bw,yq] at this
theorem Al{w:World}{v:Value}{l:List Int}(a:w.ownsRow 0 3 1 v l.length (l.map (Value.int .i64))){i:Nat}{x:Int}(d:l[i]?=some x):∃b c,v=.slice (some ⟨b,0,none⟩) l.length c/\w.cell? ⟨b,i,none⟩=some (.int .i64 x):=by
 have n:=(gS d).1
 rcases a.2 with⟨_,j⟩|⟨g,e,cur,f,_,k,_⟩
 ·omega
 ·subst f
  have:=World.ownsRow.cells a (g:=g) rfl i (.int .i64 x) (by rw[yJ,d];rfl);rw[bw,yq] at this;exact⟨g,e,rfl,this⟩
def ro(w w':World)(rb:Nat)(L:gO)(p:List ah)(t:aj)(s:eh)(ws:List (Int×aD))(e:Ending):Prop:=
 (cC ws≠0->e=.returned (.int .i64 (cC ws))/\ac w w')/\(cC ws=0->e=.returned (.int .i64 0)/\cu w' rb L p t {s with rg:=dC ws s.rg,first:=s.kd+1}/\aa (λb=>b=rb\/b=L.gb) w w')
theorem Ct{f k n m:Nat}(a:1<=f)(b:f-1+n=m)(c:k<n)(d:m<=16):wrap64 ((f:Int)-1)=((f-1:Nat):Int)/\wrap64 (((f-1:Nat):Int)+(k:Int))=((f-1+k:Nat):Int)/\f-1+k<m:=by
 refine⟨?_,?_,by omega⟩<;>unfold wrap64<;>omega
theorem pQ{w:World}{rb:Nat}{L:gO}{p:List ah}{t:aj}{s:eh}(bk:Value)(rs:List aD)(ai:cu w rb L p t s)(a2:ju w bk rs)(av:1<=s.first)(b3:s.first-1+rs.length=s.into.length)(az:s.into.length<=16)(b1:s.kd<=16)
 (aE:∀d∈s.into,0<=d/\d<s.rg.length):
 Calls Tryz.prog 43 #[.pointer (some ⟨rb,0,none⟩),bk] w λe w'=>ro w w' rb L p t s (List.zip (s.into.drop (s.first-1)) rs) e:=by
 obtain⟨n,H⟩:=eX rs.length;obtain⟨ws,N⟩:=eX (List.zip (s.into.drop (s.first-1)) rs);rw[<-N];have b9:ws.length=n:=by rw[N,List.length_zip,zF,<-H];omega
 have b8:∀k x,rs[k]?=some x->∃d,s.into[s.first-1+k]?=some d/\ws[k]?=some (d,x):=λk x j=>by
  have f:=(gS j).1;have am:s.first-1+k<s.into.length:=by omega
  refine⟨s.into[s.first-1+k],gG am,?_⟩;rw[N,List.getElem?_zip_eq_some];refine⟨?_,j⟩;rw[zN,gG am]
 obtain⟨A,c,c0⟩:=bP a2;subst c0;have R:=hD ai;have G:=hD a2;have a8:=hD b8;have z:=hD (aI H (aI b9 b3));have Q:=hD (aI av (aI az b1));have bm:=hD aE;have a7:Hd (n<=16):=hD (by omega);rw[<-H];clear ai a2 av b3 az b1 aE H N b9 b8;go_enter Tryz.func43,Tryz.ntmps43;go_wp2_with fail
 go_loopw [5] (λi wr=>∃k:Nat,k<=n/\i=.int .i64 k/\cC ws=cC (ws.drop k)/\ac w wr) (λi _=>n-(intOf i).toNat)
 case atStart=>exact⟨0,by omega,rfl,rfl,oR⟩
 case round=>
  obtain⟨k,bx,rfl,u,g⟩:=hrel
  by_cases f:k<n
  ·obtain⟨x,j⟩ :∃x,rs[k]?=some x:=⟨rs[k]'(by rw[<-z.O.1];exact f),gG _⟩
   obtain⟨d,_,o⟩:=a8.O k x j;have a:ju wr (.slice A rs.length c) rs:=g.owns G.O nG;obtain⟨b,c',hv,X,W⟩:=a.at_ j
   cases hv
   have r:ws.drop k=(d,x) :: ws.drop (k+1):=by
    have b2:=(gS o).1;rw[yM b2]
    congr 1
    rw[gG b2] at o;exact yz o
   rw[r] at u;obtain⟨c1,c2⟩:=ca f;have a4:=cG f (lT a7.O (by decide));have bz:=(aR _).trans a4;have C:=hD g
   by_cases B:x.e=0
   ·have D:cC ws=cC (ws.drop (k+1)):=by rw[u];show(if x.e≠0 then x.e else cC (ws.drop (k+1)))=_;rw[yb (by rw[B];simp)]
    have y:=hD D;rw[B] at W;clear u D r o a X g B j;go_wp2_with fail;go_roundw
    case rel=>exact⟨k+1,f,rfl,y.O,C.O⟩
    case measure=>exact au rfl f
   ·have D:cC ws=x.e:=by rw[u];show(if x.e≠0 then x.e else cC (ws.drop (k+1)))=_;rw[yf B]
    have y:=hD D;have c8:(x.e==0)=false:=bF B;have bo:=hD B;clear u D r o a X g;go_wp2_with fail;go_ret;refine⟨λ_=>⟨by rw[y.O];rfl,C.O⟩,λY=>absurd (y.O.symm.trans Y) bo.O⟩
  ·have bv:¬(k:Int)<(n:Int):=by omega
   have E:k=n:=by omega
   have al:cC ws=0:=by rw[u,E,<-z.O.2.1,zq];rfl
   have y:=hD al;have C:=hD g;obtain⟨ci,a3⟩:=eX wr;subst a3;clear u g al E;go_wp2_with fail
   go_loopw [6] (λi wr=>∃k:Nat,k<=n/\i=.int .i64 k/\cu wr rb L p t {s with rg:=dC (ws.take k) s.rg}/\aa (λb=>b=rb\/b=L.gb) w wr) (λi _=>n-(intOf i).toNat)
   case atStart=>exact⟨0,by omega,rfl,R.O.U C.O,C.O.mono λ_ e=>e.elim⟩
   case round=>
    obtain⟨k,bx,rfl,a,g⟩:=hrel
    by_cases f:k<n
    ·obtain⟨x,j⟩ :∃x,rs[k]?=some x:=⟨rs[k]'(by rw[<-z.O.1];exact f),gG _⟩
     obtain⟨d,Z,o⟩:=a8.O k x j;have b7:ju wr (.slice A rs.length c) rs:=g.owns G.O (λb ar e=>e.elim (λe=>aB G.O R.O.J (by decide) (by rw[ar,e])) (λe=>aB G.O R.O.rg (by decide) (by rw[ar,e])));obtain⟨b,c',hv,X,W⟩:=b7.at_ j
     cases hv
     obtain⟨c9,cb,b0,ad⟩:=Al a.into Z;have bt:=bm.O d (yh Z);obtain⟨d,rfl⟩ :∃bq:Nat,d=bq:=⟨d.toNat,by omega⟩
     have r:d<s.rg.length:=by omega
     obtain⟨rl,K⟩:=eX s.rg.length;have a1:(dC (ws.take k) s.rg).length=rl:=by rw[fQ,K]
     have bp:=a.J.I 5;have V:=a.J.I 9;have a9:=a.J.I 10;simp[cT,a1,b0] at bp V a9;have c4:=a.reg (k:=d) (by show d<(dC (ws.take k) s.rg).length;rw[a1,K];exact r);have c6:=a.rg.fz d;obtain⟨bb,a5,P⟩:=Ct Q.O.1 z.O.2.2 (by rw[<-z.O.1];exact f) Q.O.2.1;have c3:=(aR _).trans bb;have bf:=(aR _).trans a5;obtain⟨ch,b4⟩:=eX s.into.length;rw[<-b4] at a9 P;obtain⟨br,aw⟩:=eX (s.first-1);rw[<-aw] at bb c3 a5 bf P ad;obtain⟨q,b6⟩:=eX (br+k);rw[<-b6] at a5 bf P ad;obtain⟨c1,c2⟩:=ca f;obtain⟨cd,ce⟩:=ca P;obtain⟨cf,cg⟩:=ca (by rw[K];exact r:d<rl);have a4:=cG f (lT a7.O (by decide));have bz:=(aR _).trans a4
     have b5:dC (ws.take (k+1)) s.rg=(dC (ws.take k) s.rg).set d x.v:=by
      rw[yO,o];show dC (ws.take k++ [((d:Int),x)]) s.rg=_;rw[oF];unfold jh;rw[yo]
     have bn:=hD b5;have T:=hD a;have S:=hD g;generalize (dC (ws.take k) s.rg).getD d 0=ck at*;clear a g b7 o Z j W b0 b5 a1 bt r K b4 aw b6;go_wp2_with fail
     go_still_tail 22,(by kernel_rfl)
     change wpList _ _ _ _ _ wr.drew;go_wp2_with fail;refine⟨⟨k+1,f,rfl,?_,(S.O.trans ((af _ _ _ _).mono λb e=>.inr e)).drew⟩,au rfl f⟩;have:=(T.O.reg_set d x.v).U oR.drew;rw[bn.O];exact this
    ·have bv:¬(k:Int)<(n:Int):=by omega
     have E:k=n:=by omega
     have an:ws.take k=ws:=by rw[E,<-z.O.2.1,zr]
     rw[an] at a;have ab:=a.J.I 8;simp[cT] at ab;have V:=a.J.I 9;simp[cT] at V;have c5:=a.J.fz 9;obtain⟨ba,a0⟩:=eX s.kd;rw[<-a0] at ab;have a3:=cG (k:=ba) (n:=100) (by have:=Q.O.2.2;omega) (by decide);have c7:=(aR _).trans a3;have T:=hD a;have S:=hD g;have a6:=hD a0;clear a g an E a0;go_wp2_with fail;go_ret;refine⟨λY=>absurd y.O Y,λ_=>⟨rfl,?_,S.O.trans ((af _ _ _ _).mono λb e=>.inl e)⟩⟩;have:=T.O.first_set (ba+1);rw[a6.O] at this;rw[a6.O];exact this
end
section
def eh.ws(s:eh)(rs:List aD):List (Int×aD):=List.zip (s.into.drop (s.first-1)) rs
structure gJ(p:List ah)(t:aj)(s:eh)(rs:List aD)(L:List aj):Prop where
 run:∃rest,cN p t.M t.fn s.left s.rg s.at_ s.kd (s.ws rs)=(bH p t,rest)/\aS p t=L++rest
 kl:s.kd=L.length
 il:s.into.length=s.kd
 fl:s.first-1+rs.length=s.kd
 f1:1<=s.first
 k16:s.kd<=16
 b:Fh p t s
 ii:∀d∈s.into,0<=d/\d<s.rg.length
 lf:s.left<=t.fuel
 rv:∀r∈rs,dJ r.v
theorem gJ.start{p:List ah}{t:aj}(c:gC p)(a:bW p t):gJ p t ⟨gW p t.fn t.args,0,t.fuel,0,1,[]⟩ [] []:=by
 have g:=c.fn a.fn0 a.fn1;have b:=oS c a;refine⟨⟨aS p t,rfl,rfl⟩,rfl,rfl,rfl,lR,yx _,⟨yE _,?_,b.rl,b.ri,a.fl⟩,(λd e=>by cases e),lR,(λr f=>by cases f)⟩;have:=zK.2 g.o0;show(0:Int)<_;omega
section
variable {p:List ah}{t:aj}{s:eh}{rs:List aD}{L:List aj}
theorem gJ.op(a:gJ p t s rs L)(d:gC p)(c:bW p t):sR p (bG p t.fn) (bu p t.fn s.at_):=(d.fn c.fn0 c.fn1).ops _ (kB a.b.at0 a.b.at1).1
theorem gJ.next(a:gJ p t s rs L)(f:gC p)(c:bW p t)(d:(bu p t.fn s.at_).k≠10)(e:(bu p t.fn s.at_).k≠14):s.at_+1<(bG p t.fn).ops.length:=by
 have g:=kB (p:=p) (i:=t.fn) a.b.at0 a.b.at1;have:=(f.fn c.fn0 c.fn1).next g.2 d e;have:=a.b.at0;omega
theorem E1(a:gJ p t s rs L):∀c∈s.ws rs,dJ c.2.v:=λc b=>a.rv _ (List.of_mem_zip b).2
theorem gJ.over0(b:gJ p t s rs L)(d:s.left=0):bH p t=⟨0,130⟩/\aS p t=L:=by
 obtain⟨e,a,c⟩:=b.run;rw[d] at a;unfold cN at a;simp only[yP] at a;exact⟨a.1.symm,by rw[c,<-a.2,zA]⟩
theorem gJ.plain(a:gJ p t s rs L)(j:gC p)(n:bW p t)(C:s.left≠0)(f:¬((bu p t.fn s.at_).k=12\/(bu p t.fn s.at_).k=13\/(bu p t.fn s.at_).k=14)):
 match dE (bu p t.fn s.at_) s.rg (s.at_+1) with
 |none=>bH p t=⟨0,131⟩/\aS p t=L
 |some x=>gJ p t {s with left:=s.left-1,rg:=x.1,at_:=x.2} rs L:=by
 obtain⟨B,e,i⟩:=a.run;obtain⟨l,q⟩ :∃l,s.left=l+1:=⟨s.left-1,by omega⟩
 rw[q] at e;unfold cN at e;simp only at e;rw[yb (λc=>f (.inl c)),yb (λc=>f (.inr (.inl c))),yb (λc=>f (.inr (.inr c)))] at e
 cases hp:dE (bu p t.fn s.at_) s.rg (s.at_+1) with
 |none=>
  rw[hp] at e;simp only[yP] at e;exact⟨e.1.symm,by rw[i,<-e.2,zA]⟩
 |some x=>
  rw[hp] at e;have r:=a.op j n;obtain⟨u,z,A⟩:=oD r a.b.ri hp
  have o:0<=x.2/\x.2<(bG p t.fn).ops.length:=by
   rcases A with⟨c,g⟩|⟨c,g⟩
   ·rw[c]
    have:=a.next j n g (λc=>f (.inr (.inr c)));have:=a.b.at0;omega
   ·rw[c]
    exact r.go g
  refine⟨⟨B,?_,i⟩,a.kl,a.il,a.fl,a.f1,a.k16,⟨o.1,o.2,?_,z,?_⟩,?_,?_,a.rv⟩
  ·rw[q]
   exact e
  ·show((x.1.length:Nat):Int)=_
   rw[u];exact a.b.rl
  ·have:=a.b.lf
   show s.left-1<=_;omega
  ·intro d y
   have:=a.ii d y;show 0<=d/\d<(x.1.length:Int);rw[u];exact this
  ·have:=a.lf
   show s.left-1<=_;omega
theorem gJ.fork(a:gJ p t s rs L)(g:gC p)(j:bW p t)(P:s.left≠0)(o:(bu p t.fn s.at_).k=12):
 (s.kd=16->bH p t=⟨0,132⟩/\aS p t=L)/\(s.kd<16->t.M.length=12->bH p t=⟨0,133⟩/\aS p t=L)/\
 (s.kd<16->t.M.length<12->bW p (dc p t.M s.kd (bu p t.fn s.at_) s.rg (s.left-1))/\(s.left-1) / 2<t.fuel/\
  gJ p t {s with left:=(s.left-1)-(s.left-1) / 2,at_:=s.at_+1,kd:=s.kd+1,into:=s.into++ [(bu p t.fn s.at_).d]} (rs++ [bH p (dc p t.M s.kd (bu p t.fn s.at_) s.rg (s.left-1))]) (L++ [dc p t.M s.kd (bu p t.fn s.at_) s.rg (s.left-1)])):=by
 obtain⟨R,c,f⟩:=a.run;obtain⟨l,D⟩ :∃l,s.left=l+1:=⟨s.left-1,by omega⟩
 have E:s.left-1=l:=by omega
 rw[D] at c;unfold cN at c;simp only at c;rw[yf o] at c;rw[E];refine⟨λe=>?_,λz A=>?_,λz A=>?_⟩
 ·rw[yf (by omega)] at c
  simp only[yP] at c;exact⟨c.1.symm,by rw[f,<-c.2,zA]⟩
 ·rw[yb (by omega),yf (by omega)] at c
  simp only[yP] at c;exact⟨c.1.symm,by rw[f,<-c.2,zA]⟩
 ·rw[yb (by omega),yb (by omega)] at c
  obtain⟨k,q⟩:=eX (dc p t.M s.kd (bu p t.fn s.at_) s.rg l);rw[<-q] at c ⊢;have C:k.fuel=l / 2:=by rw[q];rfl
  simp only[yP] at c;obtain⟨n,i⟩:=c;have x:k∈aS p t:=by rw[f,<-i];simp
  have K:(cN p k.M k.fn (l / 2) (gW p k.fn k.args) 0 0 []).1=bH p k:=by rw[<-C];rfl
  rw[K] at n i;have Q:=a.lf;have u:=lA g j;have y:=a.op g j;refine⟨u.2 k x,by omega,⟨⟨(cN p t.M t.fn (l-l / 2) s.rg (s.at_+1) (s.kd+1) (s.ws rs++ [((bu p t.fn s.at_).d,bH p k)])).2,?_,?_⟩,?_,?_,?_,a.f1,?_,⟨?_,?_,a.b.rl,a.b.ri,?_⟩,?_,?_,?_⟩⟩
  ·have N:eh.ws {s with left:=l-l / 2,at_:=s.at_+1,kd:=s.kd+1,into:=s.into++ [(bu p t.fn s.at_).d]} (rs++ [bH p k])=s.ws rs++ [((bu p t.fn s.at_).d,bH p k)]:=by
    unfold eh.ws;have G:s.first-1<=s.into.length:=by rw[a.il];have:=a.fl;omega
    show List.zip ((s.into++ [_]).drop (s.first-1)) (rs++ [bH p k])=_;rw[List.drop_append_of_le_length G,List.zip_append (by rw[zF,a.il];have:=a.fl;omega)];rfl
   show cN p t.M t.fn (l-l / 2) s.rg (s.at_+1) (s.kd+1) _=_;rw[N,<-n]
  ·rw[f,<-i,yY]
   rfl
  ·show s.kd+1=_
   rw[yk,a.kl];rfl
  ·show(s.into++ [_]).length=s.kd+1
   rw[yk,a.il];rfl
  ·show s.first-1+(rs++ [_]).length=s.kd+1
   rw[yk];have:=a.fl;simp only[zo,List.length_nil];omega
  ·show s.kd+1<=16
   omega
  ·show 0<=s.at_+1
   have:=a.b.at0;omega
  ·exact a.next g j (by omega) (by omega)
  ·show l-l / 2<=65536
   have:=a.b.lf;omega
  ·intro d B
   show 0<=d/\d<(s.rg.length:Int)
   rcases yH.1 B with e|e
   ·exact a.ii d e
   ·have:d=(bu p t.fn s.at_).d:=by simpa using e
    rw[this,a.b.rl];exact⟨y.d.1,y.dr (.inr o)⟩
  ·show l-l / 2<=t.fuel
   omega
  ·intro r H
   rcases yH.1 H with e|e
   ·exact a.rv r e
   ·have:r=bH p k:=by simpa using e
    rw[this];exact(lA g (u.2 k x)).1.1
theorem gJ.join(a:gJ p t s rs L)(i:gC p)(j:bW p t)(y:s.left≠0)(o:(bu p t.fn s.at_).k=13):
 (cC (s.ws rs)≠0->bH p t=⟨0,cC (s.ws rs)⟩/\aS p t=L)/\
 (cC (s.ws rs)=0->gJ p t {s with left:=s.left-1,at_:=s.at_+1,rg:=dC (s.ws rs) s.rg,first:=s.kd+1} [] L):=by
 obtain⟨x,c,f⟩:=a.run;obtain⟨l,g⟩ :∃l,s.left=l+1:=⟨s.left-1,by omega⟩
 rw[g] at c;unfold cN at c;simp only at c;rw[yb (by omega),yf o] at c;refine⟨λe=>?_,λe=>?_⟩
 ·rw[yf e] at c
  simp only[yP] at c;exact⟨c.1.symm,by rw[f,<-c.2,zA]⟩
 ·rw[yb (by rw[e];simp)] at c
  refine⟨⟨x,?_,f⟩,a.kl,a.il,?_,?_,a.k16,⟨?_,?_,?_,?_,?_⟩,?_,?_,(λr q=>by cases q)⟩
  ·rw[g]
   have u:eh.ws {s with left:=l+1-1,at_:=s.at_+1,rg:=dC (s.ws rs) s.rg,first:=s.kd+1} [] = []:=by
    unfold eh.ws;simp
   rw[u];exact c
  ·show s.kd+1-1+0=s.kd
   omega
  ·show 1<=s.kd+1
   omega
  ·show 0<=s.at_+1
   have:=a.b.at0;omega
  ·exact a.next i j (by omega) (by omega)
  ·show(((dC (s.ws rs) s.rg).length:Nat):Int)=_
   rw[fQ];exact a.b.rl
  ·exact lv _ _ (E1 a) a.b.ri
  ·show s.left-1<=65536
   have:=a.b.lf;omega
  ·intro d n
   show 0<=d/\d<((dC (s.ws rs) s.rg).length:Int);rw[fQ];exact a.ii d n
  ·show s.left-1<=t.fuel
   have:=a.lf;omega
theorem gJ.ret(f:gJ p t s rs L)(j:s.left≠0)(g:(bu p t.fn s.at_).k=14):
 (cC (s.ws rs)≠0->bH p t=⟨0,cC (s.ws rs)⟩)/\(cC (s.ws rs)=0->bH p t=⟨ct (dC (s.ws rs) s.rg) (bu p t.fn s.at_).a,0⟩)/\aS p t=L:=by
 obtain⟨n,b,e⟩:=f.run;obtain⟨l,i⟩ :∃l,s.left=l+1:=⟨s.left-1,by omega⟩
 rw[i] at b;unfold cN at b;simp only at b;rw[yb (by omega),yb (by omega),yf g] at b
 by_cases c:cC (s.ws rs)≠0
 ·rw[yf c] at b
  simp only[yP] at b;exact⟨λ_=>b.1.symm,λd=>absurd d c,by rw[e,<-b.2,zA]⟩
 ·rw[yb c] at b
  simp only[yP] at b;exact⟨λd=>absurd d c,λ_=>b.1.symm,by rw[e,<-b.2,zA]⟩
end
open Go.RowKit Go.Maps
def gR(u:cW)(a:Option Addr×Nat):List Value:=[.string (sB u.tk.M),.int .i64 u.tk.fn,.slice a.1 u.tk.args.length a.2,.int .i64 (u.tk.fuel:Int),.int .i64 u.res.v,.int .i64 u.res.e,.int .i64 (u.kd:Int)]
def ey:List cW->List (Option Addr×Nat)->List Value
 |u :: l,a :: m=>gR u a++ey l m
 |_,_=>[]
def bi(w:World)(F:Nat->Prop)(v:Value)(l:List cW):Prop:=
 ∃qs:List (Option Addr×Nat),qs.length=l.length/\w.ownsRow 0 77 7 v l.length (ey l qs)/\∀(i:Nat) (u:cW) (a:Option Addr×Nat),l[i]?=some u->qs[i]?=some a->aL w F a.1 u.tk.args
theorem qE:∀(l:List cW) (b:List (Option Addr×Nat)) (m:List cW) (bs:List (Option Addr×Nat)),b.length=l.length->ey (l++m) (b++bs)=ey l b++ey m bs
 | [],[],m,bs,_=>rfl
 |u :: l,a :: b,m,bs,c=>by
  show gR u a++ey (l++m) (b++bs)=(gR u a++ey l b)++ey m bs;rw[qE l b m bs (by simpa using c),yY]
 | [],_ :: _,m,bs,c=>by simp at c
 |_ :: _,[],m,bs,c=>by simp at c
theorem qF:∀(l:List cW) (c:List (Option Addr×Nat)),∀x∈ey l c,x.oneCell'=true
 | [],_,x,b=>by simp[ey] at b
 |_ :: _,[],x,b=>by simp[ey] at b
 |u :: l,a :: c,x,b=>by
  rcases yH.1 b with b|b
  ·simp[gR] at b
   rcases b with rfl|rfl|rfl|rfl|rfl|rfl|rfl<;>rfl
  ·exact qF l c x b
theorem rW:∀(l:List cW) (b:List (Option Addr×Nat)) (i:Nat) (u:cW) (a:Option Addr×Nat),l[i]?=some u->b[i]?=some a->∀j v,(gR u a)[j]?=some v->(ey l b)[i*7+j]?=some v
 | [],_,i,u,a,f,_,_,_,_=>by simp at f
 |_ :: _,[],i,u,a,_,f,_,_,_=>by simp at f
 |u :: l,a :: b,0,n,g,c,d,j,v,e=>by
  simp at c d;subst c;subst d;have q:j<(gR u a).length:=(gS e).1;show(gR u a++ey l b)[0*7+j]?=_;rw[Nat.zero_mul,yq,yi q];exact e
 |u :: l,a :: b,i+1,n,g,c,d,j,v,e=>by
  have:=rW l b i n g (by simpa using c) (by simpa using d) j v e;show(gR u a++ey l b)[(i+1)*7+j]?=_;have o:(i+1)*7+j=7+(i*7+j):=by omega
  have k:(gR u a).length=7:=rfl;rw[o,yK (by rw[k];omega),k,show 7+(i*7+j)-7=i*7+j by omega];exact this
theorem nA{w:World}{base:Nat}{d:TypeId}{i n b:Nat}{v:Value}{xs:List Value}(e:w.ownsRow base d i v n xs)(a:v.ownBlock=some b):∃j,ae w b d j:=by
 rcases e.2 with⟨c,_⟩|⟨g,k,cur,c,_,f,_⟩
 ·rw[c] at a;cases a
 ·rw[c] at a
  cases a
  exact⟨cur,f⟩
theorem lp{w:World}{base e:Nat}{a c:TypeId}{o q n n':Nat}{v d:Value}{xs r:List Value}(f:w.ownsRow base a o v n xs)(g:w.ownsRow e c q d n' r)(j:a≠c)(b:Nat)(i:v.ownBlock=some b):¬d.ownBlock=some b:=by
 obtain⟨u,k⟩:=nA f i;exact aB g k λa=>j a.symm
theorem aL.keepT{w w':World}{F S:Nat->Prop}{A:Option Addr}{xs:List Int}(e:aL w F A xs)(n:aa S w w')(i:∀b a,F b->ae w b 2 a->¬S b):aL w' F A xs:=by
 rcases e with e|⟨b,o,q,f,g⟩
 ·exact .inl e
 ·refine .inr ⟨b,o,q,λr=>?_,λk j=>?_⟩
  ·obtain⟨c,a,d⟩:=f r
   exact⟨c,a,n.J d (i b a c d)⟩
  ·obtain⟨c,a,d⟩:=f (by omega)
   exact⟨c,(n.I (p:=⟨b,o+k,none⟩) (block_lt_of_cell (g k j).2) (i b a c d)).trans (g k j).2⟩
theorem aL.by_own{w w':World}{F:Nat->Prop}{A:Option Addr}{e:List Int}{base:Nat}{a:TypeId}{i n:Nat}{v:Value}{xs:List Value}(c:aL w F A e)(d:aa (λb=>v.ownBlock=some b) w w')(hv:w.ownsRow base a i v n xs)(f:2≠a):aL w' F A e:=by
 cases hb:v.ownBlock with
 |none=>exact c.kp d (λb _ a=>by rw[hb] at a;cases a)
 |some q=>
  obtain⟨j,g⟩:=nA hv hb;exact c.by_type (q:=q) (d.mono λb a=>by rw[hb] at a;exact(yz a).symm) g f
section
variable {w w':World}{F F':Nat->Prop}{v:Value}{l m:List cW}
theorem bi.U(c:bi w F v l)(b:ac w w'):bi w' F v l:=by
 obtain⟨k,d,e,f⟩:=c;exact⟨k,d,b.owns e nG,λi u a j g=>(f i u a j g).kp b nG⟩
theorem bi.by_type{q:Nat}{T:TypeId}{cs:Array Value}(g:bi w F v l)(d:aa (λb=>b=q) w w')(c:ae w q T cs)(j:2≠T)(k:77≠T):bi w' F v l:=by
 obtain⟨y,r,e,x⟩:=g;exact⟨y,r,d.owns e (λb hv f=>aB e c k (by rw[hv,f])),λi u a o n=>(x i u a o n).by_type d c j⟩
theorem bi.keepT{S:Nat->Prop}(f:bi w F v l)(d:aa S w w')(g:∀b c,F b->ae w b 2 c->¬S b)(j:∀b c,ae w b 77 c->¬S b):bi w' F v l:=by
 obtain⟨y,r,e,x⟩:=f;exact⟨y,r,d.owns e (λb n=>by obtain⟨c,q⟩:=nA e n;exact j b c q),λi u a o k=>(x i u a o k).keepT d g⟩
theorem bi.mo(c:bi w F v l)(d:∀b,F b->F' b):bi w F' v l:=by
 obtain⟨n,g,j,k⟩:=c;exact⟨n,g,j,λi u a f e=>(k i u a f e).mo d⟩
theorem bi.run{rb:Nat}{L:gO}{p:List ah}{t:aj}{s:eh}(j:bi w F v l)(r:cu w rb L p t s)(g:aa (λb=>b=rb\/b=L.gb) w w')(f:∀b,F b->b≠rb/\b≠L.gb):bi w' F v l:=by
 obtain⟨x,o,e,q⟩:=j;exact⟨x,o,g.owns e (λb d c=>c.elim (λc=>aB e r.J (by decide) (by rw[d,c])) (λc=>aB e r.rg (by decide) (by rw[d,c]))),λi u a n k=>(q i u a n k).kp g (λb d c=>c.elim (f b d).1 (f b d).2)⟩
theorem ju.run{rb:Nat}{L:gO}{p:List ah}{t:aj}{s:eh}{rs:List aD}(c:ju w v rs)(r:cu w rb L p t s)(e:aa (λb=>b=rb\/b=L.gb) w w'):ju w' v rs:=
 e.owns c (λb d a=>a.elim (λa=>aB c r.J (by decide) (by rw[d,a])) (λa=>aB c r.rg (by decide) (by rw[d,a])))
theorem bi.by_own{base:Nat}{c:TypeId}{A n:Nat}{z:Value}{xs:List Value}(g:bi w F v l)(d:aa (λb=>z.ownBlock=some b) w w')(e:w.ownsRow base c A z n xs)(j:2≠c)(k:77≠c):bi w' F v l:=by
 obtain⟨y,r,f,x⟩:=g;exact⟨y,r,d.owns f (λb hv c=>lp f e k b hv c),λi u a q o=>(x i u a q o).by_own d e j⟩
theorem xO{base n:Nat}{v1 o:Value}{d bs:List (Option Addr×Nat)}(c:d.length=l.length)(k:w.ownsRow base 77 7 v1 n (ey l d))(x:∀(i:Nat) (u:cW) (a:Option Addr×Nat),l[i]?=some u->d[i]?=some a->aL w F a.1 u.tk.args)
 (q:bs.length=m.length) (r:∀(i:Nat) (u:cW) (a:Option Addr×Nat),m[i]?=some u->bs[i]?=some a->aL w F a.1 u.tk.args) (j:aa (λb=>v1.ownBlock=some b) w w')
 (hv:w'.ownsRow 0 77 7 o (l.length+m.length) (ey l d++ey m bs)):bi w' F o (l++m):=by
 refine⟨d++bs,by rw[yk,yk,c,q],?_,λi u a f e=>?_⟩
 ·rw[yk,qE _ _ _ _ c]
  exact hv
 ·by_cases g:i<l.length
  ·rw[yi g] at f
   rw[yi (by rw[c];exact g)] at e;exact(x i u a f e).by_own j k (by decide)
  ·rw[yK (by omega)] at f
   rw[yK (by rw[c];omega),c] at e;exact(r _ u a f e).by_own j k (by decide)
end
theorem Cr:∃i z,Tryz.prog.info? 77=some i/\i.zero=some z/\i.size=7/\i.bytes=80/\z.cells.size=7:=by
 have a:(Tryz.prog.info? 77).map (λi=>(i.zero.map λz=>z.cells.size,i.size,i.bytes))=some (some 7,7,80):=by kernel_rfl
 cases hi:Tryz.prog.info? 77 with
 |none=>rw[hi] at a;cases a
 |some i=>
  rw[hi] at a;simp only[yU,yC,yP] at a
  cases hz:i.zero with
  |none=>rw[hz] at a;cases a.1
  |some z=>
   rw[hz] at a;exact⟨i,z,rfl,hz,a.2.1,a.2.2,yz a.1⟩
theorem D2:∃i,Tryz.prog.info? 35=some i/\i.zero=some (.agg #[.int .i64 0,.int .i64 0])/\i.size=2/\i.bytes=16:=by
 have a:(Tryz.prog.info? 35).map (λi=>(i.zero,i.size,i.bytes))=some (some (.agg #[.int .i64 0,.int .i64 0]),2,16):=by kernel_rfl
 cases hi:Tryz.prog.info? 35 with
 |none=>rw[hi] at a;cases a
 |some i=>
  rw[hi] at a;simp only[yU,yC,yP] at a;exact⟨i,rfl,a⟩
theorem bi.reads{w:World}{A:Option Addr}{c:Nat}{l:List cW}(a:List (Option Addr×Nat))(b:w.ownsRow 0 77 7 (.slice A l.length c) l.length (ey l a)):cO w w.heap.size 7 A l.length (ey l a):=cO.of_own b
def leftOf(w:World)(rb:Nat):Nat:=match w.cell? ⟨rb,7,none⟩ with
 |some (.int _ x)=>x.toNat
 |_=>0
theorem cu.leftOf{w:World}{rb:Nat}{L:gO}{p:List ah}{t:aj}{s:eh}(a:cu w rb L p t s):leftOf w rb=s.left:=by
 unfold Go.Proofs.YtmdocplknceilaaGreat.leftOf;rw[a.J.I 7];simp[cT]
theorem cu.dv_set{w:World}{rb:Nat}{L:gO}{p:List ah}{t:aj}{s:eh}(a:cu w rb L p t s)(v:Value):cu (w.setCell ⟨rb,11,none⟩ v) rb {L with dv:=v} p t s:=by
 have d:aa (λb=>b=rb) w (w.setCell ⟨rb,11,none⟩ v):=af _ _ _ _;refine⟨?_,d.J a.rg (λc=>ae.ne_ a.rg a.J (by decide) c),d.owns a.into (λb e c=>aB a.into a.J (by decide) (by rw[e,c])),a.cap⟩;have:=a.J.s_ 11 v
 simpa[cT] using this
theorem cu.by_own{w w':World}{rb:Nat}{L:gO}{p:List ah}{t:aj}{s:eh}{base:Nat}{a:TypeId}{k n:Nat}{z:Value}{xs:List Value}(c:cu w rb L p t s)(j:aa (λb=>z.ownBlock=some b) w w')(d:w.ownsRow base a k z n xs)(e:a≠112)(f:a≠2)(g:a≠3):cu w' rb L p t s:=
 c.kp j (λa=>aB d c.J e a) (λa=>aB d c.rg f a) (λb i a=>lp d c.into g b a i)
structure Do(w wr:World)(A TA:Option Addr)(c tc rb:Nat)(L:gO)(p:List ah)(t:aj)(s:eh)(rs:List aD)(Ls:List aj)(wv:Value):Prop where
 r:cu wr rb L p t s
 i:gJ p t s rs Ls
 ws:ju wr wv rs
 dn:bi wr (λb=>w.heap.size<=b/\b≠rb/\b≠L.gb) L.dv (Ls.flatMap (aK p))
 st:ac w wr
 pa:L.PA=A/\L.pc=c/\L.TA=TA/\L.tc=tc
 nb:w.heap.size<=rb/\w.heap.size<=L.gb
 ni:∀b,L.iv.ownBlock=some b->w.heap.size<=b
 nd:∀b,L.dv.ownBlock=some b->w.heap.size<=b
 nw:∀b,wv.ownBlock=some b->w.heap.size<=b
def FP(w wr:World)(A TA:Option Addr)(c tc rb:Nat)(p:List ah)(t:aj)(wv:Value):Prop:=∃L s rs Ls,Do w wr A TA c tc rb L p t s rs Ls wv
def xr(w w':World)(F:Nat->Prop)(p:List ah)(t:aj)(e:Ending):Prop:=∃v,e=.returned (.tuple #[eO (bH p t),v])/\bi w' (λb=>F b\/w.heap.size<=b) v (aK p t)/\ac w w'/\(∀b,v.ownBlock=some b->w.heap.size<=b)
theorem rt{p:List ah}{t:aj}{s:eh}{rs:List aD}{L:List aj}(a:gJ p t s rs L):(L.flatMap (aK p)).length<=t.fuel:=by
 obtain⟨c,_,b⟩:=a.run;have:=sa p t.fuel t (lR);rw[fG,b,zL,zo,yk] at this;omega
end
end Go.Proofs.YtmdocplknceilaaGreat
