import Derived.Test.YtmdocplknceilaaGreatRWAG
import Derived.Maps.OwnSet
import Derived.Maps.RangeWalk
import Derived.Maps.Ext
import Derived.DeepKeys5
set_option linter.all false
namespace Go.Proofs.YtmdocplknceilaaGreat
section
open Go.RowKit Go.Maps
def qx(v:Value):Option (DataW Value×List MemPlace):=some (.held v,[])
def aS(P:Program)(w:World)(k:TypeId)(b:Nat)(g:Value->Option Value)(cnt:Nat):Prop:=
 ∃D,w.ownsMap P k qx b cnt D/\Maps.size D=cnt/\∀key kl,keyOf P k key=some kl->(g key=none->Maps.has D kl=false)/\∀v,g key=some v->Maps.has D kl=true/\∀z,D.atKey kl z=.held v
noncomputable def iW(g:Value->Option Value)(key:Value)(x:Option Value):Value->Option Value:=λz=>open Classical in if z=key then x else g z
theorem kY(g:Value->Option Value)(key:Value)(x:Option Value):iW g key x key=x:=by simp[iW]
theorem kx(g:Value->Option Value){key z:Value}(x:Option Value)(a:z≠key):iW g key x z=g z:=by simp[iW,a]
section
variable {P:Program}{w w':World}{k t e:TypeId}{b cnt:Nat}{g:Value->Option Value}{key v z:Value}{kl:Lit}
theorem nX{n:Nat}{a:DataW Value}(f:w.ownsMap P k qx b n a):w.ownsMap P k qx b (Maps.size a) a:=by
 obtain⟨d,c,i,F,j,rfl⟩:=f;exact⟨d,c,i,F,by simp[Maps.size,length_sorted],rfl⟩
theorem aS.lt(a:aS P w k b g cnt):b<w.heap.size:=by
 obtain⟨d,c,_⟩:=a;exact c.lt
theorem aS.heap(f:aS P w k b g cnt)(m:w'.heap[b]?=w.heap[b]?):aS P w' k b g cnt:=by
 obtain⟨a,⟨d,c,i,j⟩,l⟩:=f;exact⟨a,⟨d,c,m.trans i,j⟩,l⟩
theorem aS.only{S:Nat->Prop}(a:aS P w k b g cnt)(d:aa S w w')(c:¬S b):aS P w' k b g cnt:=a.heap (d.block b a.lt c)
theorem aS.ne{x:Nat}{f:TypeId}{cs:Array Value}(d:aS P w k b g cnt)(c:ae w x f cs):x≠b:=by
 rintro rfl;obtain⟨i,⟨l,j,a,m⟩,n⟩:=d;unfold ae at c;rw[c] at a
 cases a
theorem aS.made(a:Keyed P k)(w:World):aS P (w.alloc (.map #[] 0)) k w.heap.size (λ_=>none) 0:=
 ⟨.map [],World.ownsMap_made _ _ _ _,rfl,λkey kl c=>⟨λ_=>rfl,λv e=>by cases e⟩⟩
theorem aS.look(f:aS P w k b g cnt)(d:Keyed P k)(o:P.underlying t=some (.map k e))(p:(zeroValue e).run P w=.ok z w)(c:keyOf P k key=some kl):(Instr.lookup t (.map (some b)) key false).run P w=.ok ((g key).getD z) w:=by
 obtain⟨q,i,r,j⟩:=f;obtain⟨u,ps,n,a⟩:=i.lookup d o p (zd:=.held z) (zp:=[]) rfl c;obtain⟨l,m⟩:=j key kl c;rw[n];simp only[qx,yC,yP] at a
 cases hg:g key with
 |none=>
  rw[Maps.atKey_of_not_has (l hg)] at a;have:=a.1;simp only[DataW.held.injEq] at this;rw[this];rfl
 |some v=>
  rw[(m v hg).2] at a;have:=a.1;simp only[DataW.held.injEq] at this;rw[this];rfl
theorem aS.look2(j:aS P w k b g cnt)(i:Keyed P k)(o:P.underlying t=some (.map k e))(p:(zeroValue e).run P w=.ok z w)(f:keyOf P k key=some kl):(Instr.lookup t (.map (some b)) key true).run P w=.ok (.tuple #[(g key).getD z,.bool (g key).isSome]) w:=by
 obtain⟨q,l,r,m⟩:=j;obtain⟨u,ps,n,a⟩:=l.look_ok i o p (zd:=.held z) (zp:=[]) rfl f;obtain⟨c,d⟩:=m key kl f;rw[n];simp only[qx,yC,yP] at a
 cases hg:g key with
 |none=>
  rw[Maps.atKey_of_not_has (c hg)] at a;have:=a.1;simp only[DataW.held.injEq] at this;rw[this,c hg];rfl
 |some v=>
  rw[(d v hg).2] at a;have:=a.1;simp only[DataW.held.injEq] at this;rw[this,(d v hg).1];rfl
theorem aS.len(c:aS P w k b g cnt)(i:P.underlying t=some (.map k e))(a:TypeId):(Builtin.len_ #[t] a #[.map (some b)]).run P w=.ok (.int .i64 (cnt:Int)) w:=by
 obtain⟨j,d,f,l⟩:=c;rw[d.len i a,f]
theorem aS.put(a:aS P w k b g cnt)(f:Keyed P k)(N:P.underlying t=some (.map k e))(c:keyOf P k key=some kl)(F:cnt<maxLen):
 ∃w',(Instr.mapUpdate t (.map (some b)) key v).run P w=.ok () w'/\aS P w' k b (iW g key (some v)) (if (g key).isSome then cnt else cnt+1)/\aa (λx=>x=b) w w':=by
 obtain⟨m,i,B,o⟩:=a;obtain⟨w',L,K,G⟩:=i.update f N F (d:=.held v) (ps:=[]) c rfl;have q:=f.key c;have Q:=i.tidy f;obtain⟨C,D⟩:=o key kl c
 have H:Maps.has m kl=(g key).isSome:=by
  cases hg:g key with
  |none=>rw[C hg];rfl
  |some u=>rw[(D u hg).1];rfl
 have r:Maps.size (m.put kl (.held v))=if (g key).isSome then cnt else cnt+1:=by
  rw[Maps.size_put Q,H,B]
 refine⟨w',L,⟨m.put kl (.held v),by rw[<-r];exact nX K,r,λs y j=>?_⟩,(aa.refl _ w).grown G λx R=>by cases R;exact .inl rfl⟩
 by_cases e:s=key
 ·subst e
  rw[c] at j
  cases j
  rw[kY];exact⟨λa=>(by cases a),λu l=>by cases l;exact⟨Maps.has_put_same i.isMap q _,λz=>Maps.atKey_put_same i.isMap q _ _⟩⟩
 ·have n:y≠kl:=λA=>e (f.inj (A ▸ j) c)
  rw[kx _ _ e];obtain⟨E,p⟩:=o s y j;exact⟨λa=>by rw[Maps.has_put_other n];exact E a,λu l=>⟨by rw[Maps.has_put_other n];exact(p u l).1,λz=>by rw[Maps.atKey_put_other n];exact(p u l).2 z⟩⟩
theorem aS.del(j:aS P w k b g cnt)(i:Keyed P k)(L:P.underlying t=some (.map k e))(a:keyOf P k key=some kl)(y:TypeId):
 ∃w',(Builtin.delete_ #[t,k] y #[.map (some b),key]).run P w=.ok (.tuple #[]) w'/\aS P w' k b (iW g key none) (if (g key).isSome then cnt-1 else cnt)/\aa (λx=>x=b) w w':=by
 obtain⟨f,n,B,o⟩:=j;obtain⟨w',K,H,F⟩:=n.drop i L a y;have N:=n.tidy i;obtain⟨C,D⟩:=o key kl a
 have G:Maps.has f kl=(g key).isSome:=by
  cases hg:g key with
  |none=>rw[C hg];rfl
  |some u=>rw[(D u hg).1];rfl
 have q:Maps.size (f.del kl)=if (g key).isSome then cnt-1 else cnt:=by
  have:=Maps.size_del N (k:=kl);rw[G,B] at this;split at this
  ·rename_i l;rw[yf l];omega
  ·rename_i l;rw[yb l];omega
 refine⟨w',K,⟨f.del kl,by rw[<-q];exact nX H,q,λr s c=>?_⟩,(aa.refl _ w).grown F.grown λx Q=>by cases Q;exact .inl rfl⟩
 by_cases e:r=key
 ·subst e
  rw[a] at c
  cases c
  rw[kY];exact⟨λ_=>Maps.has_del_same,λu d=>by cases d⟩
 ·have m:s≠kl:=λA=>e (i.inj (A ▸ c) a)
  rw[kx _ _ e];obtain⟨E,p⟩:=o r s c;exact⟨λj=>by rw[Maps.has_del_other m];exact E j,λu d=>⟨by rw[Maps.has_del_other m];exact(p u d).1,λz=>by rw[Maps.atKey_del_other m];exact(p u d).2 z⟩⟩
end
theorem Tryz.laidOut:laidOutB Tryz.prog=true:=by kernel_rfl
theorem ix:Keyed Tryz.prog 58:=Keyed.of_law (deep_law_gate Tryz.laidOut (yD (by kernel_rfl)) (yD (by kernel_rfl)) (by kernel_rfl) (by kernel_rfl))
def sB(l:List UInt8):ByteArray:=⟨l.toArray⟩
theorem jY(l:List UInt8):(sB l).size=l.length:=by simp[sB,ByteArray.size]
theorem pG(l:List UInt8):(sB l).data.toList=l:=by simp[sB]
theorem FK{a b:List UInt8}(c:sB a=sB b):a=b:=by rw[<-pG a,c,pG]
def fe(job:Int)(path:List UInt8):Value:=.agg #[.int .u64 job,.string (sB path)]
theorem EM{a b:Int}{x y:List UInt8}(c:fe a x=fe b y):a=b/\x=y:=by
 simp[fe] at c;exact⟨c.1,FK c.2⟩
theorem wN(d:Nat){a:Int}{path:List UInt8}(j:(Lit.int .u64 a).wf=true)(l:path.length<=maxLen):Tryz.prog.keyLits (d+2) 58 [.int .u64 a,.string (sB path)] =some [.int .u64 a,.string path]:=by
 have m:(sB path).size<=maxLen:=by rw[jY];exact l
 have c:Tryz.prog.cellsOf 58=2:=by kernel_rfl
 have f:Tryz.prog.cellsOf 54=1:=by kernel_rfl
 have i:Tryz.prog.cellsOf 9=1:=by kernel_rfl
 simp[Program.keyLits,Tryz.underlying58,Tryz.underlying54,Tryz.underlying9,c,f,i,j,m,pG]
theorem C4{a:Int}{path:List UInt8}(n:(Lit.int .u64 a).wf=true)(o:path.length<=maxLen):∃kl,keyOf Tryz.prog 58 (fe a path)=some kl:=by
 refine⟨.string (keyBytes [.int .u64 a,.string path]),?_⟩;have i:Tryz.prog.keyType 58=true:=by kernel_rfl
 have f:Tryz.prog.cellsOf 58=2:=by kernel_rfl
 obtain⟨d,m⟩ :∃d,Tryz.prog.types.size+1=d+2:=⟨Tryz.prog.types.size-1,by have:2<=Tryz.prog.types.size:=yD (by kernel_rfl);omega⟩
 have c:=wN d n o;rw[<-m] at c;have j:(fe a path).formed Tryz.prog 58=true:=by simp[fe,Value.formed,Tryz.underlying58,f]
 have l:(fe a path).cells.toList= [.int .u64 a,.string (sB path)]:=rfl;unfold keyOf;rw[Tryz.underlying58,i,j,l];simp only[Bool.and_self,yR,c,yU]
end
end Go.Proofs.YtmdocplknceilaaGreat
