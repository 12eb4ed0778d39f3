import Derived.Test.YtmdocplknceilaaGreatNWBQ
import Derived.Test.YtmdocplknceilaaGreatNWBH
import Derived.Test.YtmdocplknceilaaGreatNWBY
set_option linter.all false
namespace Go.Proofs.YtmdocplknceilaaGreat
section
open Go.RowKit Go.Maps
theorem vZ{P:Program}{w:World}{t k c:TypeId}{b:Nat}{a:Array MapEntry}{d:Nat}(f:Keyed P k)(o:P.underlying t=some (.map k c)){z:Value}(H:∀u:World,(zeroValue c).run P u=.ok z u)(e:w.heap[b]?=some (.map a d))
 (S:MapKept.Stamped a d) (L:∀x∈a.toList,∃l,keyOf P k x.key=some l) {key:Value} {X:Lit} (g:keyOf P k key=some X):
 ∃(v0:Value) (st:Nat) (D:Array MapEntry) (C:Nat),(Instr.mapEntry t (.map (some b)) key).run P w=.ok (.tuple #[v0,.int .i64 (st:Int)]) (ChangeMaps.setBlock w b (.map D C))/\(Instr.mapUpdate t (.map (some b)) key v0).run P w=.ok () (ChangeMaps.setBlock w b (.map D C))/\(∀F,(∀u:World,(zeroValue c).run P u=.ok F u)->(Instr.lookup t (.map (some b)) key false).run P w=.ok v0 w)/\
  ∀(A:World) (val:Value),A.heap[b]?=some (.map D C)->∃G c',(Instr.entryStore t (.map (some b)) (.int .i64 (st:Int)) val).run P A=.ok () (ChangeMaps.setBlock A b (.map G c'))/\(Instr.mapUpdate t (.map (some b)) key val).run P w=.ok () (ChangeMaps.setBlock w b (.map G c')):=by
 obtain⟨Y,K,_⟩:=S
 rcases f.find w g a.toList L with⟨m,p⟩|⟨j,B,m,p,q⟩
 ·have N:(a.push ⟨key,z,d⟩).toList[a.size]?=some ⟨key,z,d⟩:=by simp
  have Q:((a.push ⟨key,z,d⟩).toList.map (·.born)).Nodup:=by
   rw[Yb,yS];refine zy.2 ⟨K,by simp,λx V y W Z=>?_⟩;obtain⟨u,T,rfl⟩:=yL.1 V;have:=Y u T;simp at W;omega
  have r:=WideElems.findIdx_born Q N;rw[<-WideElems.findIdx_arr] at r;refine⟨z,d,a.push ⟨key,z,d⟩,d+1,?_,?_,?_,λA val v=>⟨(a.push ⟨key,z,d⟩).modify a.size (λc=>{c with val:=val}),d+1,?_,?_⟩⟩
  ·simp[Instr.mapEntry,run_underlying o,MapKept.run_getObj_map e,f.check w false g,m,H,MapKept.run_setObj_map _ e,Result.andThen,ChangeMaps.setBlock,goInt]
  ·simp[Instr.mapUpdate,run_underlying o,MapKept.run_getObj_map e,f.check w false g,m,MapKept.run_setObj_map _ e,Result.andThen,ChangeMaps.setBlock]
  ·intro F _
   simp[Instr.lookup,run_underlying o,MapKept.run_getObj_map e,f.check w _ g,m,H,Result.andThen]
  ·simp at r
   simp[Instr.entryStore,MapKept.run_getObj_map v,asInt,asIntOf,r,MapKept.run_setObj_map _ v,Result.andThen,ChangeMaps.setBlock]
  ·have s:(a.push ⟨key,z,d⟩).modify a.size (λc=>{c with val:=val})=a.push ⟨key,val,d⟩:=by
    apply Array.ext';rw[zu,Yb,Yb,<-Array.length_toList,WideElems.modify_last]
   rw[s];simp[Instr.mapUpdate,run_underlying o,MapKept.run_getObj_map e,f.check w false g,m,MapKept.run_setObj_map _ e,Result.andThen,ChangeMaps.setBlock]
 ·have E:a[j]?=some B:=by simpa using p
  have R:a.modify j (λc=>{c with key:=key})=a:=by
   apply Array.ext';rw[zu];apply zt;intro i;rw[zG]
   by_cases n:j=i
   ·subst n
    rw[p,<-q];simp
   ·simp[n]
  have r:=WideElems.findIdx_born K p;rw[<-WideElems.findIdx_arr] at r;refine⟨B.val,B.born,a,d,?_,?_,?_,λA val v=>⟨a.modify j (λc=>{c with val:=val}),d,?_,?_⟩⟩
  ·simp[Instr.mapEntry,run_underlying o,MapKept.run_getObj_map e,f.check w false g,m,E,q,f.stays w g,R,MapKept.run_setObj_map _ e,Result.andThen,ChangeMaps.setBlock,goInt]
  ·have s:a.modify j (λc=>{c with key:=key,val:=B.val})=a:=by
    apply Array.ext';rw[zu];apply zt;intro i;rw[zG]
    by_cases n:j=i
    ·subst n
     rw[p,<-q];simp
    ·simp[n]
   simp[Instr.mapUpdate,run_underlying o,MapKept.run_getObj_map e,f.check w false g,m,E,q,f.stays w g,s,MapKept.run_setObj_map _ e,Result.andThen,ChangeMaps.setBlock]
  ·intro F _
   simp[Instr.lookup,run_underlying o,MapKept.run_getObj_map e,f.check w _ g,m,Result.andThen]
  ·simp[Instr.entryStore,MapKept.run_getObj_map v,asInt,asIntOf,r,MapKept.run_setObj_map _ v,Result.andThen,ChangeMaps.setBlock]
  ·have s:a.modify j (λc=>{c with key:=key,val:=val})=a.modify j (λc=>{c with val:=val}):=by
    apply Array.ext';rw[zu,zu];apply zt;intro i;rw[zG,zG]
    by_cases n:j=i
    ·subst n
     rw[p,<-q];simp
    ·simp[n]
   rw[<-s];simp[Instr.mapUpdate,run_underlying o,MapKept.run_getObj_map e,f.check w false g,m,E,q,f.stays w g,MapKept.run_setObj_map _ e,Result.andThen,ChangeMaps.setBlock]
theorem aN.entry2{P:Program}{w:World}{t k d:TypeId}{b cnt:Nat}{g:Value->Option Value}{key z:Value}{K:Lit}(e:aN P w k b g cnt)(c:Keyed P k)(l:P.underlying t=some (.map k d))(o:∀u:World,(zeroValue d).run P u=.ok z u)(j:keyOf P k key=some K)(s:cnt<maxLen):
 ∃(st:Nat) (n:World),(Instr.mapEntry t (.map (some b)) key).run P w=.ok (.tuple #[(g key).getD z,.int .i64 (st:Int)]) n/\aa (λx=>x=b) w n/\aN P n k b (iu g key (some ((g key).getD z))) (if (g key).isSome then cnt else cnt+1)/\
  ∀(a:World) (val:Value),a.heap[b]?=n.heap[b]?->∃p,(Instr.entryStore t (.map (some b)) (.int .i64 (st:Int)) val).run P a=.ok () p/\aN P p k b (iu g key (some val)) (if (g key).isSome then cnt else cnt+1)/\aa (λx=>x=b) a p:=by
 obtain⟨L,⟨R,Q,i,F,W⟩,V⟩:=id e;obtain⟨v0,st,T,N,q,G,E,B⟩:=vZ c l o i F.stamped F.keys j;have f:=E z o;rw[e.look c l (o w) j] at f;have H:v0=(g key).getD z:=by injection f with d;exact d.symm
 obtain⟨Y,y,A,X⟩:=e.put c l j s (v:=v0);rw[G] at y
 cases y
 rw[H] at A q;refine⟨st,_,q,jD i,A,λa val m=>?_⟩;rw[ChangeMaps.heap_setBlock_same i _] at m;obtain⟨S,c',f,C⟩:=B a val m;obtain⟨w',r,D,_⟩:=e.put c l j s (v:=val);rw[C] at r
 cases r
 exact⟨_,f,D.heap (by rw[ChangeMaps.heap_setBlock_same m _,ChangeMaps.heap_setBlock_same i _]),jD m⟩
theorem bi.at_{w:World}{F:Nat->Prop}{A:Option Addr}{c n:Nat}{l:List cW}(m:bi w F (.slice A n c) l){i:Nat}{u:cW}(b:l[i]?=some u):∃g,A=some ⟨g,0,none⟩/\∃B f,∀(j:Nat) (v:Value),(gR u (B,f))[j]?=some v->w.cell? ⟨g,i*7+j,none⟩=some v:=by
 obtain⟨a,o,d,s⟩:=m;have p:i<a.length:=by rw[o];exact(gS b).1
 rcases d.2 with⟨_,r⟩|⟨g,q,cur,k,_⟩
 ·have:=(gS b).1
  omega
 ·have e:A=some ⟨g,0,none⟩:=by injection k
  refine⟨g,e,(a[i]).1,(a[i]).2,λj v hv=>?_⟩;have:=World.ownsRow.cells d (g:=g) (by rw[e];rfl) (i*7+j) v (rW l a i u a[i] b (gG p) j v hv);rw[bw,yq] at this;exact this
theorem tv{w:World}{base:Nat}{A:Option Addr}{c n:Nat}{l:List (Nm×Nat×aD)}(b:w.ownsRow base 69 5 (.slice A n c) l.length (l.flatMap jH)){i:Nat}{u:Nm×Nat×aD}(a:l[i]?=some u):∃g,A=some ⟨g,0,none⟩/\∀(j:Nat) (v:Value),(jH u)[j]?=some v->w.cell? ⟨g,i*5+j,none⟩=some v:=by
 rcases b.2 with⟨_,p⟩|⟨g,o,cur,m,_⟩
 ·have:=(gS a).1
  omega
 ·have f:A=some ⟨g,0,none⟩:=by injection m
  refine⟨g,f,λj v hv=>?_⟩;have q:j<5:=(gS hv).1;have r:i<l.length:=(gS a).1;obtain⟨y,d,e⟩:=iy (k:=5) jH (λ_=>rfl) l (i*5+j) (by omega);rw[show(i*5+j) / 5=i by omega,a] at d
  cases d
  rw[show(i*5+j) % 5=j by omega,hv] at e;have:=World.ownsRow.cells b (g:=g) (by rw[f];rfl) (i*5+j) v e;rw[bw,yq] at this;exact this
noncomputable def jC(l:List (Nm×Nat×aD))(n:Nm):Option Value:=open Classical in if n∈l.map (·.1) then some (.int .i64 1) else none
theorem wY(l:List (Nm×Nat×aD))(x:Nm×Nat×aD):ay (jC l) x.1 (some (.int .i64 1))=jC (l++ [x]):=by
 funext m;unfold jC
 by_cases c:m=x.1
 ·subst c
  rw[aA,yf (by simp)]
 ·rw[ag _ _ c]
  by_cases b:m∈l.map (·.1)
  ·rw[yf b,yf (by rw[yS];exact List.mem_append_left _ b)]
  ·rw[yb b,yb (λa=>by
    rw[yS,yH] at a
    rcases a with a|a
    ·exact b a
    ·simp at a;exact c a)]
def vK(x:Nm×Nat×aD)(job:Int)(l:List cW):Prop:=∃u∈l,x=(⟨job,u.tk.M⟩,u.kd,u.res)
end
end Go.Proofs.YtmdocplknceilaaGreat
