import Derived.Test.YtmdocplknceilaaGreatRWAM
import Derived.Test.YtmdocplknceilaaGreatRWAI
import Derived.Test.YtmdocplknceilaaGreatRWAB
set_option linter.all false
set_option maxRecDepth 100000
namespace Go.Proofs.YtmdocplknceilaaGreat
section
open Go.RowKit
def fU(l:List UInt8):Prop:=l.length<=12/\∀c∈l,1<=c.toNat/\c.toNat<=16
theorem pK{P:Program}(w:World)(f e a:TypeId)(k:P.underlying f=some .string)(g:P.underlying e=some (.slice a))(i:P.underlying a=some (.int .u8))(s:ByteArray):
 ∃c w',(convert f e (.string s)).run P w=.ok (.slice (some ⟨w.heap.size,0,none⟩) s.size c) w'/\kA w' w.heap.size (bs s)/\aa (λ_=>False) w w':=by
 refine⟨_,_,run_bytes_of_string w f e a s k g i,⟨by simp,λj d=>?_,λj d=>?_⟩,((aa.refl _ w).drew).alloc _⟩
 ·rw[tB] at d
  have b:=heap_alloc_new w.drew (.cells (bytesRow s (grownCap w s.size 0 a)) a ((bytesRow s (grownCap w s.size 0 a)).size,(bytesRow s (grownCap w s.size 0 a)).size+1));rw[World.size_drew] at b;rw[cell_of_row _ _ _ _ _ _ b];exact pP s _ j d
 ·rw[tB] at d
  have b:=heap_alloc_new w.drew (.cells (bytesRow s (grownCap w s.size 0 a)) a ((bytesRow s (grownCap w s.size 0 a)).size,(bytesRow s (grownCap w s.size 0 a)).size+1));rw[World.size_drew] at b
  have l:j<(bytesRow s (grownCap w s.size 0 a)).size:=by
   have:=pP s (grownCap w s.size 0 a) j d;exact(yu.1 this).1
  simp only[World.frozen?,b];simp;omega
theorem uI{P:Program}(t:TypeId)(c:P.underlying t=some .string)(s:ByteArray)(b:Nat)(d:b<=s.size)(w:World):
 (Instr.slice t (.string s) none (some (.int .i64 (b:Int))) none).run P w=.ok (.string (s.extract 0 b)) w:=by
 have a:(b:Int)<=(s.size:Int):=by omega
 simp[go_sem,c,a]
abbrev ac(w w':World):Prop:=aa (λ_=>False) w w'
theorem EN(c:Nat)(w:World):Calls Tryz.prog 198 #[.int .u8 (c:Int)] w λa w'=>a=.returned (.bool (decide ((c:Int)<1)||decide ((16:Int)<(c:Int))))/\ac w w':=by
 go_enter Tryz.func198,Tryz.ntmps198;go_wp2_with fail
 all_goals go_ret
 all_goals exact⟨by simp_all,oR⟩
theorem AN(g:Nat)(xs:List Nat)(r:Nat)(v d:Array Value)(fn:Nat)(w:World)(u:∀args w,(callFunc fn args).run Tryz.prog w=.ok (.enter fn args) w)(l:kA w g xs)(B:xs.length<=1000)
 (e:∀x∈xs,∀y,ac w y->Calls Tryz.prog fn (#[.int .u8 (x:Int)] ++d) y λb w'=>b=.returned (.bool false)/\ac y w'):
 Calls Tryz.prog 223 #[.slice (some ⟨g,0,none⟩) xs.length r,.func (.func fn) #[] d] w λb w'=>b=.returned (.int .i64 (-1))/\ac w w':=by
 have p:=hD l;have o:=hD e;clear l e;go_enter Tryz.func223,Tryz.ntmps223;go_wp2_with fail
 go_loopw [8] (λi wr=>∃k:Nat,k<=xs.length/\i=.int .i64 k/\ac w wr) (λi _=>xs.length-(intOf i).toNat)
 case atStart=>exact⟨0,by omega,rfl,oR⟩
 case round=>
  obtain⟨k,A,rfl,a⟩:=hrel
  by_cases f:k<xs.length
  ·have C:(0:Int)<=(k:Int):=by omega
   have t:(k:Int)<(xs.length:Int):=by omega
   have s:=(p.O.only a nF).I k f;have j:xs.getD k 0∈xs:=by rw[yc,gG f];simp
   have n:=hD (o.O _ j wr a);have c:=hD a
   have z:wr.cell? ((⟨g,0,none⟩ :Addr).add k)=some (.int .u8 ((xs.getD k 0:Nat):Int)):=by
    have:(⟨g,0,none⟩ :Addr).add k=⟨g,k,none⟩:=by unfold Addr.add;split<;>simp_all
    rw[this];exact s
   clear a j;generalize xs.getD k 0=x at*;go_wp2_with fail;refine n.O.mono ?_;rintro b D ⟨rfl,m⟩;have q:=hD (c.O.trans m);clear m;go_wp2_with fail;go_roundw
   case rel=>exact⟨k+1,by omega,by go_num,q.O⟩
   case measure=>simp[intOf];omega
  ·have t:¬(k:Int)<(xs.length:Int):=by omega
   have c:=hD a;clear a;go_wp2_with fail;go_ret;exact⟨rfl,c.O⟩
theorem AL(g:Nat)(xs:List Nat)(c:Nat)(b:Array Value)(fn:Nat)(w:World)(k:∀args w,(callFunc fn args).run Tryz.prog w=.ok (.enter fn args) w)(e:kA w g xs)(l:xs.length<=1000)
 (d:∀x∈xs,∀y,ac w y->Calls Tryz.prog fn (#[.int .u8 (x:Int)] ++b) y λa w'=>a=.returned (.bool false)/\ac y w'):
 Calls Tryz.prog 199 #[.slice (some ⟨g,0,none⟩) xs.length c,.func (.func fn) #[] b] w λa w'=>a=.returned (.bool false)/\ac w w':=by
 have i:=hD (AN g xs c #[] b fn w k e l d);clear e d;go_enter Tryz.func199,Tryz.ntmps199;go_wp2_with fail;refine i.O.mono ?_;rintro a m ⟨rfl,f⟩;have j:=hD f;clear f;go_wp2_with fail;go_ret;exact⟨rfl,j.O⟩
theorem ui(l:List UInt8)(e:fU l)(w:World):Calls Tryz.prog 152 #[.string (sB l)] w λa w'=>a=.returned (.bool true)/\ac w w':=by
 have C:((sB l).size:Int)<=12:=by rw[jY];have:=e.1;omega
 have j:(bs (sB l)).length=(sB l).size:=tB _
 have i:∀x∈bs (sB l),1<=x/\x<=16:=by
  intro x b;have:bs (sB l)=l.map UInt8.toNat:=by simp[bs,sB]
  rw[this] at b;obtain⟨c,z,rfl⟩:=yL.1 b;exact e.2 c z
 have p:Hd (∀(g d:Nat) (W:World),kA W g (bs (sB l))->Calls Tryz.prog 199 #[.slice (some ⟨g,0,none⟩) (sB l).size d,.func (.func 198) #[] #[]] W λa w'=>a=.returned (.bool false)/\ac W w'):=hD (λg d W A=>by
  have:=AL g (bs (sB l)) d #[] 198 W (λ_ _=>by kernel_rfl) A (by omega) (λx b y D=>by
   refine(EN x y).mono ?_;rintro a w' ⟨rfl,k⟩;have:=i x b;have u:decide ((x:Int)<1)=false:=yd (by omega);have v:decide ((16:Int)<(x:Int))=false:=yd (by omega);rw[u,v];exact⟨rfl,k⟩)
  rw[j] at this;exact this)
 clear i j e;generalize sB l=s at*;obtain⟨c,t,B,f,n⟩:=pK (P:=Tryz.prog) w 240 72 5 Tryz.underlying240 Tryz.underlying72 Tryz.underlying5 s;have q:=hD n;have o:=hD (p.O _ c t f);clear n f;go_enter Tryz.func152,Tryz.ntmps152;go_wp2_with fail;refine o.O.mono ?_;rintro a E ⟨rfl,m⟩;have r:=hD (q.O.trans m);clear m;go_wp2_with fail;go_ret;exact⟨rfl,r.O⟩
theorem lQ(l:List UInt8)(b:fU l)(w:World):Calls Tryz.prog 112 #[.string (sB l)] w λa w'=>a=.returned (.bool true)/\ac w w':=by
 have d:=hD (ui l b w);clear b;go_enter Tryz.func112,Tryz.ntmps112;go_wp2_with fail;refine d.O.mono ?_;rintro a f ⟨rfl,c⟩;have e:=hD c;clear c;go_wp2_with fail;go_ret;exact⟨rfl,e.O⟩
def mc(l:List UInt8)(n:Nat):Value:=if l.length=12 then .tuple #[.string ByteArray.empty,.bool false] else .tuple #[.string (sB (l++ [UInt8.ofNat n])),.bool true]
theorem qm(l:List UInt8)(e:fU l)(n:Nat)(v:1<=n)(x:n<=16)(w:World):Calls Tryz.prog 90 #[.string (sB l),.int .i64 (n:Int)] w λa w'=>a=.returned (mc l n)/\ac w w':=by
 have g:=hD (lQ l e w);have q:decide ((n:Int)<1)=false:=yd (by omega);have r:decide ((16:Int)<(n:Int))=false:=yd (by omega);have f:=jY l;have k:=e.1;have A:IntKind.u8.wrap (n:Int)=(n:Int):=by unfold IntKind.wrap;simp[IntKind.bits,IntKind.signed];omega
 clear e
 by_cases b:l.length=12
 ·have a:mc l n=.tuple #[.string ByteArray.empty,.bool false]:=yf b
  rw[a];have o:(sB l).size=12:=by rw[f];exact b
  have z:((((sB l).size:Nat):Int)==12)=true:=beq_iff_eq.2 (by omega);clear a f k b;generalize sB l=s at*;go_enter Tryz.func90,Tryz.ntmps90;go_wp2_with fail;refine g.O.mono ?_;rintro a p ⟨rfl,c⟩;have d:=hD c;clear c;go_wp2_with fail
  go_ret2
  exact⟨rfl,d.O⟩
 ·have a:mc l n=.tuple #[.string (sB (l++ [UInt8.ofNat n])),.bool true]:=yb b
  have o:((((sB l).size:Nat):Int)==12)=false:=bF (by omega);have y:¬9223372036854775807<(sB l).size+1:=by omega
  have t:∀W:World,(convert 72 9 (.slice (some ⟨W.heap.size,0,none⟩) 1 1)).run Tryz.prog (W.alloc (.cells #[.int .u8 (n:Int)] 5))=.ok (.string ⟨#[UInt8.ofNat n]⟩) (W.alloc (.cells #[.int .u8 (n:Int)] 5)):=by
   intro W;have m:=ae.new W 5 #[.int .u8 (n:Int)]
   have:=run_convert_bytes_arg (P:=Tryz.prog) (W.alloc (.cells #[.int .u8 (n:Int)] 5)) 72 5 Tryz.underlying72 Tryz.underlying5 W.heap.size 0 1 1 [(n:Int)] rfl (λi u=>by
    have:i=0:=by omega
    subst this;exact m.I 0) 9 Tryz.underlying9
   rw[this]
   congr 2
  have j:sB (l++ [UInt8.ofNat n])=sB l++(⟨#[UInt8.ofNat n]⟩ :ByteArray):=by
   apply ByteArray.ext;simp[sB]
  rw[a,j];clear a f k b j;generalize sB l=s at*;go_enter Tryz.func90,Tryz.ntmps90;go_wp2_with fail;refine g.O.mono ?_;rintro a p ⟨rfl,c⟩;have d:=hD c;clear c;go_wp2_with fail
  go_ret2
  exact⟨rfl,d.O.alloc _⟩
theorem Cl(l:List UInt8)(a:fU l)(w:World):Calls Tryz.prog 190 #[.string (sB l)] w λd w'=>d=.returned (if l= [] then .tuple #[.int .i64 0,.bool false] else .tuple #[.int .i64 ((l.length:Int)-1),.bool true])/\ac w w':=by
 have b:=hD (ui l a w);have f:=a.1;clear a
 cases l with
 |nil=>
  have e:sB [] =⟨#[]⟩:=rfl;rw[yf rfl];rw[e] at b ⊢;clear f;go_enter Tryz.func190,Tryz.ntmps190;go_wp2_with fail
  go_ret2
  exact⟨rfl,oR⟩
 |cons c l=>
  have g:((sB (c :: l)).size:Int)=((c :: l).length:Int):=by rw[jY]
  rw[yb (by simp),<-g];have e:(sB (c :: l)).toList.isEmpty=false:=by rw[ByteArray.toList_eq,pG];rfl
  have m:((sB (c :: l)).size:Int)<=12:=by omega
  have k:IntKind.i64.wrap (((sB (c :: l)).size:Int)-1)=((sB (c :: l)).size:Int)-1:=IntWalk.i64_in _ (by omega);clear g f;generalize sB (c :: l)=s at*;go_enter Tryz.func190,Tryz.ntmps190;go_wp2_with fail;refine b.O.mono ?_;rintro d n ⟨rfl,i⟩;have j:=hD i;clear i;go_wp2_with fail
  go_ret2
  exact⟨rfl,j.O⟩
theorem pN(l:List UInt8)(c:UInt8)(b:fU (l++ [c]))(w:World):Calls Tryz.prog 148 #[.string (sB (l++ [c]))] w λd w'=>d=.returned (.tuple #[.string (sB l),.bool true])/\ac w w':=by
 have a:=Cl (l++ [c]) b w;rw[yb (by simp)] at a;have f:(((l++ [c]).length:Nat):Int)-1=(l.length:Int):=by simp
 rw[f] at a;have i:=hD a;have k:=b.1
 have e:(sB (l++ [c])).extract 0 l.length=sB l:=by
  apply ByteArray.ext;rw[ByteArray.data_extract];simp[sB]
 have m:∀W,(Instr.slice 9 (.string (sB (l++ [c]))) none (some (.int .i64 ((l.length:Nat):Int))) none).run Tryz.prog W=.ok (.string (sB l)) W:=λW=>by
  rw[uI 9 Tryz.underlying9 (sB (l++ [c])) l.length (by rw[jY];simp) W,e]
 clear a f k e b;generalize sB (l++ [c])=s at*;generalize sB l=s' at*;generalize ((l.length:Nat):Int)=n at*;go_enter Tryz.func148,Tryz.ntmps148;go_wp2_with fail;refine i.O.mono ?_;rintro d o ⟨rfl,g⟩;have j:=hD g;clear g;go_wp2_with fail
 go_ret2
 exact⟨rfl,j.O⟩
end
end Go.Proofs.YtmdocplknceilaaGreat
