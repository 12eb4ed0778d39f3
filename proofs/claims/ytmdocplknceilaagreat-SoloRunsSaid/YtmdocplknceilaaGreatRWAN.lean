import Derived.Test.YtmdocplknceilaaGreatRWAM
import Derived.Shelf.SlSortCmp.WholeK
set_option linter.all false
namespace Go.Proofs.YtmdocplknceilaaGreat
section
open Go.RowKit Go.Sort Go.Shelf Go.Lib
theorem iD{α:Type}(enc:α->List Value){k:Nat}(c:∀x,(enc x).length=k):∀(l:List α) (t:Nat),t<l.length*k->∃x,l[t / k]?=some x/\(l.flatMap enc)[t]?=(enc x)[t % k]?
 | [],t,b=>by simp at b
 |a :: l,t,b=>by
  have m:0<k:=by
   rcases Nat.eq_zero_or_pos k with e|e
   ·rw[e,Nat.mul_zero] at b;omega
   ·exact e
  rw[yZ]
  by_cases d:t<k
  ·refine⟨a,by rw[Nat.div_eq_of_lt d];rfl,?_⟩
   rw[yi (by rw[c];exact d),Nat.mod_eq_of_lt d]
  ·have f:k<=t:=yA d
   obtain⟨x,i,j⟩:=iD enc c l (t-k) (by rw[zo,Nat.add_mul,Nat.one_mul] at b;omega);refine⟨x,?_,?_⟩
   ·rw[Nat.div_eq_sub_div m f]
    exact i
   ·rw[yK (by rw[c];exact f),c,j,Nat.mod_eq_sub_mod f]
theorem ow{α:Type}[Inhabited α](enc:α->List Value){k:Nat}(b:∀x,(enc x).length=k)(l:List α)(t:Nat)(a:t<l.length*k):(l.flatMap enc)[t]?=some (flatK enc k l.toArray)[t]!:=by
 obtain⟨x,f,i⟩:=iD enc b l t a
 have j:0<k:=by
  rcases Nat.eq_zero_or_pos k with e|e
  ·rw[e,Nat.mul_zero] at a;omega
  ·exact e
 rw[get_flatK _ _ _ _ (by simpa using a),i]
 have d:l.toArray[t / k]! =x:=by
  rw[List.getElem!_toArray,List.getElem!_eq_getElem?_getD,f];rfl
 rw[d];have c:t % k<(enc x).length:=by rw[b];exact Yj _ j
 rw[gG c,List.getElem!_eq_getElem?_getD,gG c];rfl
theorem wF{α:Type}[Inhabited α](enc:α->List Value){k:Nat}(c:∀x,(enc x).length=k)(l:List α):(flatK enc k l.toArray).toList=l.flatMap enc:=by
 have f:(l.flatMap enc).length=l.length*k:=by
  induction l with
  |nil=>simp
  |cons a l i=>rw[yZ,yk,c,i,zo,Nat.add_mul,Nat.one_mul,Nat.add_comm]
 apply zt;intro t
 by_cases b:t<l.length*k
 ·rw[ow enc c l t b]
  have d:t<(flatK enc k l.toArray).size:=by simpa using b
  rw[zj,zM d,getElem!_pos _ t d]
 ·rw[zv (by simpa using yA b),zv (by rw[f];exact yA b)]
section
variable {α:Type}[Inhabited α]{P:Program}{w w':World}{enc:α->List Value}{k base g n cap:Nat}{e:TypeId}{l:List α}
theorem BZ(o:∀x,(enc x).length=k)(f:w.ownsRow base e k (.slice (some ⟨g,0,none⟩) l.length cap) l.length (l.flatMap enc)):HoldsK enc k w g 0 l.toArray/\g<w.heap.size:=by
 rcases f.2 with⟨a,_⟩|⟨q,p,cur,a,r,i,s,t,u,m⟩
 ·cases a
 ·cases a
  have b:ae w g e cur:=i;refine⟨λj c=>?_,b.lt⟩;rw[size_flatK,List.size_toArray] at c;rw[yq];refine⟨?_,b.fz j⟩;rw[b.I j];have d:=ow enc o l j c;rw[<-m,List.getElem?_take_of_lt c,zj] at d;exact d
theorem xx(r:∀x,(enc x).length=k)(v:w.ownsRow base e k (.slice (some ⟨g,0,none⟩) l.length cap) l.length (l.flatMap enc))(j:Nat)(a:List α)(d:Array Obj)(q:a.length=l.length):
 (sortWorldK enc k w g 0 j a.toArray d).ownsRow base e k (.slice (some ⟨g,0,none⟩) l.length cap) l.length (a.flatMap enc)/\aa (λb=>b=g) w (sortWorldK enc k w g 0 j a.toArray d):=by
 rcases v.2 with⟨f,_⟩|⟨F,E,cur,f,y,m,o,z,p,G⟩
 ·cases f
 ·cases f
  have C:g<w.heap.size:=(yu.1 m).1;have i:(sortWorldK enc k w g 0 j a.toArray d).heap=(w.heap.modify g (onCells (putCells id 0 (flatK enc k a.toArray))))++d:=rfl;have s:(a.flatMap enc).length=l.length*k:=by rw[<-wF enc r a,Array.length_toList,size_flatK,List.size_toArray,q]
  constructor
  ·refine⟨s,.inr ⟨g,cap,putCells id 0 (flatK enc k a.toArray) cur,rfl,y,?_,o,z,?_,?_⟩⟩
   ·rw[i,zX (by simpa using C),Array.getElem?_modify,yf rfl,m]
    rfl
   ·unfold putCells
    rw[Array.size_mapIdx];exact p
   ·apply zt
    intro t
    by_cases c:t<l.length*k
    ·rw[List.getElem?_take_of_lt c,zj]
     have u:t<a.length*k:=by rw[q];exact c
     rw[ow enc r a t u];unfold putCells
     have B:t<cur.size:=by
      rw[p];exact lL c (zP k o)
     rw[Array.getElem?_mapIdx,zM B];simp only[yU,yx,yq,true_and,Nat.sub_zero,id_eq];rw[yf (by simpa using u)]
    ·rw[zv (by rw[ze];omega),zv (by rw[s];exact yA c)]
  ·refine⟨rfl,rfl,rfl,?_,λb A D=>?_⟩
   ·rw[i,Array.size_append,Array.size_modify]
    exact Nat.le_add_right _ _
   ·rw[i,zX (by simpa using A),Array.getElem?_modify,yb (λe=>D e.symm)]
theorem uK{ρ:Ren}(L:SlLaysF0.n6 P ρ)(C:∀w,(isAgg (ρ.t 24)).run P w=.ok true w)(Z:∀w,(Go.sizeOf (ρ.t 24)).run P w=.ok k w)(f:∀x,(enc x).length=k)(G:∀x,∀v∈enc x,v.oneCell'=true)(c:α->α->Int)(K:SWO (ltOf c))(fn:Nat)
 (F:∀args w,(callFunc fn args).run P w=.ok (.enter fn args) w) (N:∀(x y:α) (W:World),Calls P fn #[.agg (enc x).toArray,.agg (enc y).toArray] W λe w'=>e=.returned (.int .i64 (c x y))/\∃q Y,w'=grow (W.drewN q) Y)
 (p:w.ownsRow base e k (.slice (some ⟨g,0,none⟩) l.length cap) l.length (l.flatMap enc)) (T:l.length<4611686018427387904):
 Calls P (ρ.f 6) #[.slice (some ⟨g,0,none⟩) l.length cap,.func (.func fn) #[] #[]] w λo w'=>o=.returned (.tuple #[])/\∃l':List α,l'.Perm l/\(∀i j,i<j->j<l'.length->ltOf c l'[j]! l'[i]! =false)/\
  w'.ownsRow base e k (.slice (some ⟨g,0,none⟩) l.length cap) l.length (l'.flatMap enc)/\aa (λb=>b=g) w w':=by
 obtain⟨H,V⟩:=BZ f p;have d:l.toArray.size=l.length:=List.size_toArray;have r:=AnyQ.slices_SortFunc L k C Z enc f G c K fn #[] g 0 cap l.toArray w F (λu z a0 d x y=>by simpa using N x y _) H V (by rw[d];exact T);rw[d] at r;refine r.mono ?_;rintro o w' ⟨Q,a,u,z,⟨m,a1,t⟩,X,rfl⟩;rw[d] at m;have s:a.toList.length=l.length:=by rw[Array.length_toList];exact m
 obtain⟨A,B⟩:=xx f p u a.toList z s;rw[Array.toArray_toList] at A B;refine⟨Q,a.toList,?_,λi j R S=>?_,A,B⟩
 ·have D:(a.extract 0 l.length).toList=a.toList:=by rw[<-m];simp
  have E:(l.toArray.extract 0 l.length).toList=l:=by simp
  rw[D,E] at t;exact t
 ·have:=X i j (yx _) R (by rw[<-s];exact S)
  simpa[<-Array.getElem!_toList] using this
end
end
end Go.Proofs.YtmdocplknceilaaGreat
