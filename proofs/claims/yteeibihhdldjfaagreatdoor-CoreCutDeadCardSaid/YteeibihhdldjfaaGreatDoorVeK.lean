/- Part 11: from a call that returns true, and changes nothing of what was there, to the law's row. Conditions: as the rows' builders ask. And more. -/
import Derived.Test.YteeibihhdldjfaaGreatDoorVeJ
import Derived.ProofKit
import Derived.OpenShut
import Derived.WalkKit
set_option linter.unusedVariables false
set_option linter.unusedSimpArgs false
namespace Go.Ve
open Go.ChangeShapes Go.WideShapes Go.ChangeAt Go.RowKit
section
variable {H:Type}{enc:TypeId×Value→H}{P:Program}
theorem amD (hl:laidOutB P=true){W W':World}(hb:Below W.heap.size W W'):∀{ts:List TypeId}{vs:ZZE}{ds:List (DataW H)}{ps:List MemPlace},(∀t∈ts,P.readableRec t=true∧t<P.types.size)→
 DataW.TrodAll enc P W 0 (fun _=>true) true ts vs ds ps→(∀x∈ps,x.block<W.heap.size)→DataW.TrodAll enc P W' 0 (fun b=>decide (b<W.heap.size)) true ts vs ds ps
 | [],[],[],ps,_,h,_=>h
 | [],_::_,_,ps,_,h,_=>h.elim
 | [],[],_::_,ps,_,h,_=>h.elim
 | _::_,[],_,ps,_,h,_=>h.elim
 | _::_,_::_,[],ps,_,h,_=>h.elim
 | t::ts,v::vs,d::ds,ps,hr,h,cy=>by
  obtain⟨p,q,h1,h2,rfl⟩:=h;have Cj:=hr t zai;exact⟨p,q,Below.trod hl Cj.1 Cj.2 h1 hb fun x hx=>cy x (zaO _ hx),amD hl hb (fun t ht=>hr t (zaj _ ht)) h2 fun x hx=>cy x (zbq _ hx),rfl⟩
theorem amE {W base sp held}:∀{ts:List TypeId}{vs:ZZE}{ds:List (DataW H)}{ps:List MemPlace},DataW.TrodAll enc P W base sp held ts vs ds ps→ds.length=ts.length∧vs.length=ts.length
 | [],[],[],_,_=>⟨rfl,rfl⟩
 | [],_::_,_,ps,h=>h.elim
 | [],[],_::_,ps,h=>h.elim
 | _::_,[],_,ps,h=>h.elim
 | _::_,_::_,[],ps,h=>h.elim
 | t::ts,v::vs,d::ds,ps,h=>by
  obtain⟨p,q,h1,h2,_⟩:=h;have:=amE h2;exact⟨by simp [this.1],by simp [this.2]⟩
theorem ayz {fn:Func}{s:ChangeSpec}{W W':World}{args:Array Z}{ds gs:List (DataW H)}{before:List MemPlace}{tb:TypeId}(hl:laidOutB P=true)(jL:∀t∈fn.params.toList,P.readableRec t=true∧t<P.types.size)
 (FJ:fn.resultTypes= #[tb]) (htb:P.underlying tb=some .bool) (Uz:s.vars=[]) (adQ:∀ds:List (DataW H),ds.length=fn.params.toList.length→s.fn H ds={results:=[.lit (.bool true)],args:=ds})
 (hW:DataW.Whole enc P fn.params.toList s.vars false W args.toList ds gs before) (hb:Below W.heap.size W W'):s.post enc P fn false true false false W args (.bool true) W':=by
 have hW0:=hW;have cy:∀p∈before,p.block<W.heap.size:=fun p hp=>hW.lt p hp
 obtain⟨p,q,hA,hV,hpq,hz,hn⟩:=hW;rw [Uz]at hV;obtain⟨hg,hq⟩:=trodVars_none hV;have hlen:=amE hA;have hs:=adQ ds hlen.1;subst hg;subst hq;rw [zaS]at hpq;subst hpq;have vQ:s.fn H (ds++[])={results:=[.lit (.bool true)],args:=ds}:=by rw [zaS];exact hs
 refine⟨ds,[],before,[],before,[],hW0,?_,?_,?_,World.keptBut_mono (fun p hp=>⟨hp,.inr (.inl hp)⟩) (hb.frame (· ∈before)),fun h=>by cases h⟩
 · rw [vQ,FJ];exact trodAll_cons_mk (shut_bool htb true) trodAll_mk0
 · rw [vQ];exact amD hl hb jL hA cy
 · rw [vQ,Uz];exact rfl
end
section
variable {H:Type}{enc:TypeId×Value→H}{P:Program}
inductive AD (P:Program){H:Type}(h:AH):TypeId→ZZE→DataW H→Prop
 | bool (t:TypeId) (b:Bool) (hu:P.underlying t=some .bool):AD P h t [.bool b] (.lit (.bool b))
 | int (t:TypeId) (k:IntKind) (n:Int) (hu:P.underlying t=some (.int k)) (hw:(Lit.int k n).wf=true):AD P h t [.int k n] (.lit (.int k n))
 | str (t:TypeId) (s:ByteArray) (hu:P.underlying t=some .string) (hs:s.size≤maxLen):AD P h t [.string s] (.lit (.string s.data.toList))
 | qW (t e:TypeId) (hu:P.underlying t=some (.slice e)):AD P h t [.slice none 0 0] .nil
 | sl (t e:TypeId) (b o n cap:Nat) (kU rest:List (DataW H)) (eZ:List (ZZE)) (hu:P.underlying t=some (.slice e)) (hn:kU.length=n) (hc:n≤cap) (lO:cap≤maxLen) (hl:eZ.length=n)
  (hz:∀cs∈eZ,cs.length=P.cellsOf e) (hr:h.bH b o eZ.flatten) (he:∀(i:Nat) (cs:ZZE) (d:DataW H),eZ[i]? =some cs→kU[i]? =some d→AD P h e cs d):AD P h t [.slice (some ⟨b,o,none⟩) n cap] (.slice kU rest)
 | struct (t:TypeId) (fs:Array Field) (cs:ZZE) (ds:List (DataW H)) (hu:P.underlying t=some (.struct fs)) (hl:cs.length=P.cellsOf t) (hd:ds.length=fs.size)
  (he:∀(i:Nat) (f:Field) (d:DataW H),fs[i]? =some f→ds[i]? =some d→AD P h f.type ((cs.drop f.offset).take (P.cellsOf f.type)) d):AD P h t cs (.agg ds)
 | arr (t e:TypeId) (n:Nat) (cs:ZZE) (ds:List (DataW H)) (hu:P.underlying t=some (.array n e)) (hl:cs.length=P.cellsOf t) (hd:ds.length=n)
  (he:∀(i:Nat) (d:DataW H),ds[i]? =some d→AD P h e ((cs.drop (i*P.cellsOf e)).take (P.cellsOf e)) d):AD P h t cs (.agg ds)
theorem AD.bt {h h'}(K:eK h h')(jd:h.Ok){t:TypeId}{cs:ZZE}{d:DataW H}(A:AD P h t cs d):AD P h' t cs d:=by
 induction A with
 | bool t b hu=>exact .bool t b hu
 | int t k n hu hw=>exact .int t k n hu hw
 | str t s hu hs=>exact .str t s hu hs
 | qW t e hu=>exact .qW t e hu
 | sl t e b o n cap kU rest eZ hu hn hc lO hl hz hr he ih=>exact .sl t e b o n cap kU rest eZ hu hn hc lO hl hz (K.bH jd hr) ih
 | struct t fs cs ds hu hl hd he ih=>exact .struct t fs cs ds hu hl hd ih
 | arr t e n cs ds hu hl hd he ih=>exact .arr t e n cs ds hu hl hd ih
theorem HR.look {w0 w φ h}(R:HR P w0 φ h w){b o:Nat}{arr:Array Z}{ty:TypeId}{fr:Nat×Nat}(hw:w.heap[b]? =some (.cells arr ty fr)){l:ZZE}(hb:b<w0.heap.size)
 (hl:∀(i:Nat) (v:Z),l[i]? =some v→∃v',arr[o+i]? =some v'∧VR φ v v'):
 ∃h',HR P w0 (φ.put h.nx (.live b 0 arr.size)) h' w∧Ext h.nx φ (φ.put h.nx (.live b 0 arr.size))∧eK h h'∧h'.bH h.nx o l∧h.nx<h'.nx:=by
 have hf:φ h.nx=none:=R.fresh _ (zad _);have hE:Ext h.nx φ (φ.put h.nx (.live b 0 arr.size)):=aY.TU φ _ hf (zad _)
 let h':AH:=⟨h.nx+1,h.ob.set h.nx (some (.cells o (o+l.length) ty false (nR .e o l)))⟩
 have hg:∀g,h'.ob.get g=if g=h.nx then some (.cells o (o+l.length) ty false (nR .e o l))else h.ob.get g:=fun g=>NT.fR _ _ _ _
 refine⟨h',⟨?_,?_,?_,?_,?_,R.below⟩,hE,⟨za5 _,fun g xe=>by rw [hg,if_neg (by omega)]⟩,?_,zax _⟩
 · intro f f' b' d d' n n' vZ h1 h2
   have key:∀g b' d n,(φ.put h.nx (.live b 0 arr.size)) g=some (.live b' d n)→w0.heap.size≤b'→φ g=some (.live b' d n):=by
    intro g b' d n hgg vZ
    by_cases e:g=h.nx
    · subst e;rw [aY.me]at hgg;cases hgg;omega
    · rwa [aY.mi _ _ e]at hgg
   exact R.inj f f' b' d d' n n' vZ (key _ _ _ _ h1 vZ) (key _ _ _ _ h2 vZ)
 · intro g xe;have:h.nx+1≤g:=xe;rw [aY.mi _ _ (by omega)];exact R.fresh g (by omega)
 · intro g xe;have:h.nx+1≤g:=xe;rw [hg,if_neg (by omega)];exact R.top g (by omega)
 · intro g UA;have e:g≠h.nx:=fun e=>by subst e;rw [aY.me]at UA;cases UA
   rw [aY.mi _ _ e]at UA;rw [hg,if_neg e];exact R.dead g UA
 · intro g b' d n Mx
   by_cases e:g=h.nx
   · subst e;rw [aY.me]at Mx;cases Mx;refine⟨_,_,by rw [hg,if_pos rfl],hw,.cells 0 arr.size o (o+l.length) ty false (nR .e o l) arr fr (fun h=>Bool.noConfusion h) (zaz _) rfl fun p hp1 hp2=>?_,fun h=>Bool.noConfusion h⟩;have r8:p-o<l.length:=by omega
     obtain⟨v',g1,g2⟩:=hl (p-o) _ (zab r8);refine⟨l[p-o],v',?_,?_,VR.ext hE g2⟩
     · rw [FD,if_pos (by omega)];exact zab r8
     · rw [show p-0=o+(p-o) by omega];exact g1
   · rw [aY.mi _ _ e]at Mx;obtain⟨o1,o2,a1,a2,a3,a4⟩:=R.obj g b' d n Mx;exact⟨o1,o2,by rw [hg,if_neg e];exact a1,a2,a3.ext hE,a4⟩
 · intro i v hv;have hi:i<l.length:=(List.getElem?_eq_some_iff.1 hv).1;show AH.rd h' h.nx (o+i)=some v;unfold AH.rd;rw [hg,if_pos rfl];simp only [];rw [if_pos (by omega),FD,if_pos (by omega),show o+i-o=i by omega];exact hv
theorem HR.ayA {w0 w φ h}(R:HR P w0 φ h w):HR P w0 (φ.put h.nx .dead) ⟨h.nx+1,h.ob⟩ w∧Ext h.nx φ (φ.put h.nx .dead)∧eK h ⟨h.nx+1,h.ob⟩:=by
 have hf:φ h.nx=none:=R.fresh _ (zad _);have hE:Ext h.nx φ (φ.put h.nx .dead):=aY.TU φ _ hf (zad _)
 have key:∀g b d n,(φ.put h.nx .dead) g=some (.live b d n)→φ g=some (.live b d n):=by
  intro g b d n hg
  by_cases e:g=h.nx
  · subst e;rw [aY.me]at hg;cases hg
  · rwa [aY.mi _ _ e]at hg
 refine⟨⟨fun f f' b d d' n n' vZ h1 h2=>R.inj f f' b d d' n n' vZ (key _ _ _ _ h1) (key _ _ _ _ h2),fun g hg=>?_,fun g hg=>R.top g (by have:h.nx+1≤g:=hg;omega),fun g hg=>?_,fun g b d n hg=>?_,R.below⟩,hE,⟨za5 _,fun _ _=>rfl⟩⟩
 · have:h.nx+1≤g:=hg;rw [aY.mi _ _ (by omega)];exact R.fresh g (by omega)
 · by_cases e:g=h.nx
   · subst e;exact R.top _ (zad _)
   · rw [aY.mi _ _ e]at hg;exact R.dead g hg
 · obtain⟨o1,o2,a1,a2,a3,a4⟩:=R.obj g b d n (key _ _ _ _ hg);exact⟨o1,o2,a1,a2,a3.ext hE,a4⟩
end
end Go.Ve
