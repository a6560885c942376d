/- Part 3: what it is for an abstract heap to stand for the real one, and what becomes of that at a new block, a write, a block's death. No condition. -/
import Derived.Test.YteeibihhdldjfaaGreatDoorVeB
import Derived.Laws.CopyRow
import Derived.Laws.Append
import Derived.ChangeKeysEq
set_option linter.unusedVariables false
set_option linter.unusedSimpArgs false
namespace Go.Ve
open Go.RowKit
structure yr (P:Program) (φ:aY) (l:qi) (l':Loop):Prop where
 state:l'.state=l.state
 gq:l'.pending=l.gq
 fn:l'.fn=l.fn
 tm:TR φ l.tm l.nt l'.tmps
 params:l.params=l'.params.toList.map Pos.of
 small:∀t∈l'.params.toList,t<l.nt
 assign:kR P l.nt l'.assign=some l.assign
 body:kR P l.nt l'.body=some l.body
 defs:φ l.defs≠none
 abD:∀b d n,φ l.defs=some (.live b d n)→l'.defers=b
inductive ER (φ:aY):List (Z×Z×Nat)→List MapEntry→Prop where
 | nil:ER φ [] []
 | cons (a v:Z) (b:Nat) (e:MapEntry) (l:List (Z×Z×Nat)) (l':List MapEntry) (ha:VR φ a e.key) (hv:VR φ v e.val) (hb:e.born=b) (hl:ER φ l l'):ER φ ((a,v,b)::l) (e::l')
inductive OR (P:Program) (φ:aY):Nat→Nat→AO→Obj→Prop where
 | cells (d n lo hi:Nat) (ty:TypeId) (rw:Bool) (c:NT Z) (arr:Array Z) (fr:Nat×Nat) (vR:rw=true→fr=(0,0)) (hd:d≤lo) (hn:n=arr.size)
  (hc:∀p,lo≤p→p<hi→∃v v',c.get p=some v∧arr[p-d]? =some v'∧VR φ v v'):OR P φ d n (.cells lo hi ty rw c) (.cells arr ty fr)
 | map (d n:Nat) (es:List (Z×Z×Nat)) (eJ:Array MapEntry) (cl:Nat) (he:ER φ es eJ.toList):OR P φ d n (.map es cl) (.map eJ cl)
 | loop (d n:Nat) (l:qi) (l':Loop) (h:yr P φ l l'):OR P φ d n (.loop l) (.loop l')
 | defs (d n:Nat) (t:Bool):OR P φ d n (.defs t) (.deferred (if t then none else some []))
 | kP (n:Nat) (s:ByteArray) (pos:Nat):OR P φ 0 n (.kP s pos) (.stringIter s pos)
 | jD (n:Nat) (m m':Option Nat) (since:Nat) (seen:List Nat) (last:Nat) (h0:m=none→m'=none) (h1:∀r,m=some r→∃r',m'=some r'∧φ r≠none∧∀b d n,φ r=some (.live b d n)→r'=b):OR P φ 0 n (.jD m since seen last) (.mapIter m' since seen.toArray last)
theorem ER.ext {N φ φ'}(h:Ext N φ φ'):∀{l:List (Z×Z×Nat)}{l':List MapEntry},ER φ l l'→ER φ' l l'
 | _,_,.nil=>.nil
 | _,_,.cons a v b e l l' h1 h2 h3 h4=>.cons a v b e l l' (VR.ext h h1) (VR.ext h h2) h3 (ER.ext h h4)
theorem yr.ext {P N φ φ'}(h:Ext N φ φ'){l:qi}{l':Loop}(r:yr P φ l l'):yr P φ' l l':=
 ⟨r.state,r.gq,r.fn,r.tm.ext h,r.params,r.small,r.assign,r.body,h.bt r.defs,fun b d n hl=>r.abD b d n (h.live r.defs hl)⟩
theorem OR.ext {P N φ φ'}(h:Ext N φ φ'){d n:Nat}{o:AO}{o':Obj}(r:OR P φ d n o o'):OR P φ' d n o o':=by
 cases r with
 | cells _ _ lo hi ty rw c arr fr vR hd hn hc=>
  refine .cells _ _ _ _ _ _ _ _ _ vR hd hn fun p h1 h2=>?_;obtain⟨v,v',a,b,c⟩:=hc p h1 h2;exact⟨v,v',a,b,VR.ext h c⟩
 | map _ _ es eJ cl he=>exact .map _ _ _ _ _ (he.ext h)
 | loop _ _ l l' hl=>exact .loop _ _ _ _ (hl.ext h)
 | defs _ _ t=>exact .defs _ _ _
 | kP _ s pos=>exact .kP _ _ _
 | jD _ m m' since seen last h0 h1=>
  refine .jD _ _ _ _ _ _ h0 fun r hr=>?_;obtain⟨r',a,b,c⟩:=h1 r hr;exact⟨r',a,h.bt b,fun x d n hl=>c x d n (h.live b hl)⟩
def AO.open:AO→Bool | .cells _ _ _ rw _=>rw | _=>true
structure HR (P:Program) (w0:World) (φ:aY) (h:AH) (w:World):Prop where
 inj:∀f f' b d d' n n',w0.heap.size≤b→φ f=some (.live b d n)→φ f'=some (.live b d' n')→f=f'
 fresh:∀f,h.nx≤f→φ f=none
 top:∀f,h.nx≤f→h.ob.get f=none
 dead:∀f,φ f=some .dead→h.ob.get f=none
 obj:∀f b d n,φ f=some (.live b d n)→∃o o',h.ob.get f=some o∧w.heap[b]? =some o'∧OR P φ d n o o'∧(o.open=true→w0.heap.size≤b)
 below:Below w0.heap.size w0 w
section
variable {P:Program}{w0 w:World}{φ:aY}{h:AH}
theorem HR.live (H:HR P w0 φ h w){f:Nat}{o:AO}(hf:φ f≠none)(ho:h.ob.get f=some o):∃b d n o',φ f=some (.live b d n)∧w.heap[b]? =some o'∧OR P φ d n o o'∧(o.open=true→w0.heap.size≤b):=by
 cases hm:φ f with
 | none=>exact absurd hm hf
 | some m=>
  cases m with
  | dead=>rw [H.dead f hm]at ho;cases ho
  | live b d n=>
   obtain⟨o1,o',h1,h2,h3,h4⟩:=H.obj f b d n hm;rw [h1]at ho;cases ho;exact⟨b,d,n,o',rfl,h2,h3,h4⟩
theorem HR.world {w'}(H:HR P w0 φ h w)(hh:w'.heap=w.heap)(h1:w'.os=w.os)(h2:w'.tape=w.tape)(h3:w'.output=w.output):HR P w0 φ h w':=
 ⟨H.inj,H.fresh,H.top,H.dead,by rw [hh];exact H.obj,⟨h1.trans H.below.os,h2.trans H.below.tape,h3.trans H.below.output,by rw [hh];exact H.below.size,by rw [hh];exact H.below.block⟩⟩
def aY.put (φ:aY) (f:Nat) (m:Mp):aY:=fun g=>if g=f then some m else φ g
theorem aY.me (φ:aY)(f:Nat)(m:Mp):φ.put f m f=some m:=by simp [aY.put]
theorem aY.mi (φ:aY){f g:Nat}(m:Mp)(h:g≠f):φ.put f m g=φ g:=by simp [aY.put,h]
theorem aY.TU (φ:aY){N f:Nat}(m:Mp)(hf:φ f=none)(hN:N≤f):Ext N φ (φ.put f m):=by
 refine⟨fun g m' hg=>?_,fun g hg hn=>?_⟩
 · by_cases e:g=f
   · subst e;rw [hf]at hg;cases hg
   · exact .inl (by rw [aY.mi _ _ e];exact hg)
 · rw [aY.mi _ _ (by omega)];exact hn
theorem aY.Tc (φ:aY)(N f:Nat)(hf:φ f≠none):Ext N φ (φ.put f .dead):=by
 refine⟨fun g m' hg=>?_,fun g hg hn=>?_⟩
 · by_cases e:g=f
   · subst e;exact .inr (aY.me _ _ _)
   · exact .inl (by rw [aY.mi _ _ e];exact hg)
 · by_cases e:g=f
   · subst e;exact absurd hn hf
   · rw [aY.mi _ _ e];exact hn
theorem HR.newAt (H:HR P w0 φ h w){f:Nat}{o:AO}{o':Obj}{d n:Nat}{h':AH}(hf:φ f=none)(ee:h'.ob.get f=some o)(alY:∀g,g≠f→φ g≠none→h'.ob.get g=h.ob.get g)
 (nM:∀g,h'.nx≤g→φ g=none) (axA:∀g,h'.nx≤g→h'.ob.get g=none) (hnf:f<h'.nx) (N:Nat) (hN:N≤f) (ho:OR P φ d n o o'):
 HR P w0 (φ.put f (.live w.heap.size d n)) h' (w.alloc o')∧Ext N φ (φ.put f (.live w.heap.size d n)):=by
 have hE:Ext N φ (φ.put f (.live w.heap.size d n)):=aY.TU φ _ hf hN;refine⟨⟨?_,?_,axA,?_,?_,?_⟩,hE⟩
 · intro g g' b e e' m m' vZ hg xe
   have key:∀g b e m,(φ.put f (.live w.heap.size d n)) g=some (.live b e m)→(g=f∧b=w.heap.size)∨(g≠f∧φ g=some (.live b e m)∧b<w.heap.size):=by
    intro g b e m hg
    by_cases fT:g=f
    · subst fT;rw [aY.me]at hg;cases hg;exact .inl ⟨rfl,rfl⟩
    · rw [aY.mi _ _ fT]at hg;obtain⟨_,o1,_,h2,_⟩:=H.obj g b e m hg;exact .inr ⟨fT,hg,(Array.getElem?_eq_some_iff.1 h2).1⟩
   rcases key g b e m hg with⟨a1,a2⟩ | ⟨a1,a2,a3⟩<;>rcases key g' b e' m' xe with⟨b1,b2⟩ | ⟨b1,b2,b3⟩
   · rw [a1,b1]
   · omega
   · omega
   · exact H.inj g g' b e e' m m' vZ a2 b2
 · intro g hg;rw [aY.mi _ _ (by omega)];exact nM g hg
 · intro g hg
   by_cases fT:g=f
   · subst fT;rw [aY.me]at hg;cases hg
   · rw [aY.mi _ _ fT]at hg;rw [alY g fT (by rw [hg];simp)];exact H.dead g hg
 · intro g b e m hg
   by_cases fT:g=f
   · subst fT;rw [aY.me]at hg;cases hg;exact⟨o,o',ee,heap_alloc_new w o',ho.ext hE,fun _=>H.below.size⟩
   · rw [aY.mi _ _ fT]at hg;obtain⟨o1,o2,h1,h2,h3,h4⟩:=H.obj g b e m hg;exact⟨o1,o2,by rw [alY g fT (by rw [hg];simp)];exact h1,by rw [heap_alloc_old _ _ _ (Array.getElem?_eq_some_iff.1 h2).1];exact h2,h3.ext hE,h4⟩
 · exact H.below.alloc H.below.size _
theorem HR.nK (H:HR P w0 φ h w){f b d n:Nat}(hl:φ f=some (.live b d n)){o:AO}{o':Obj}{h':AH}{w':World}(ee:h.ob.mU f (some o) h'.ob)(nM:h'.nx=h.nx)
 (ho:OR P φ d n o o') (hb:w0.heap.size≤b) (h1:w'.heap[b]? =some o') (h2:∀k,k≠b→w'.heap[k]? =w.heap[k]?) (h3:w'.heap.size=w.heap.size)
 (h4:w'.os=w.os) (h5:w'.tape=w.tape) (h6:w'.output=w.output):HR P w0 φ h' w':=by
 have oW:f<h.nx:=by
  rcases Nat.lt_or_ge f h.nx with h' | h'
  · exact h'
  · rw [H.fresh f h']at hl;cases hl
 refine⟨H.inj,by rw [nM];exact H.fresh,fun g hg=>by rw [ee.2 g (by omega)];exact H.top g (by omega),?_,?_,?_⟩
 · intro g hg;have fT:g≠f:=fun e=>by subst e;rw [hl]at hg;cases hg
   rw [ee.2 g fT];exact H.dead g hg
 · intro g b' e m hg
   by_cases fT:g=f
   · subst fT;rw [hl]at hg;cases hg;exact⟨o,o',ee.1,h1,ho,fun _=>hb⟩
   · obtain⟨o1,o2,a1,a2,a3,a4⟩:=H.obj g b' e m hg;have eM:b'≠b:=fun e'=>fT (by subst e';exact H.inj g f b' e d m n hb hg hl)
     exact⟨o1,o2,by rw [ee.2 g fT];exact a1,by rw [h2 b' eM];exact a2,a3,a4⟩
 · exact⟨h4.trans H.below.os,h5.trans H.below.tape,h6.trans H.below.output,by rw [h3];exact H.below.size,fun k hk=>by rw [h2 k (by omega)];exact H.below.block k hk⟩
theorem HR.kill (H:HR P w0 φ h w){f:Nat}(hf:φ f≠none){h':AH}(ee:h.ob.mU f none h'.ob)(nM:h'.nx=h.nx):HR P w0 (φ.put f .dead) h' w:=by
 have hE:Ext 0 φ (φ.put f .dead):=aY.Tc φ 0 f hf
 have key:∀g b e m,(φ.put f .dead) g=some (.live b e m)→g≠f∧φ g=some (.live b e m):=by
  intro g b e m hg
  by_cases fT:g=f
  · subst fT;rw [aY.me]at hg;cases hg
  · rw [aY.mi _ _ fT]at hg;exact⟨fT,hg⟩
 refine⟨fun g g' b e e' m m' vZ hg xe=>H.inj g g' b e e' m m' vZ (key _ _ _ _ hg).2 (key _ _ _ _ xe).2,?_,?_,?_,?_,H.below⟩
 · intro g hg;rw [nM]at hg;have:=H.fresh g hg;have fT:g≠f:=fun e=>hf (by subst e;exact this)
   rw [aY.mi _ _ fT];exact this
 · intro g hg;rw [nM]at hg;have fT:g≠f:=fun e=>hf (by subst e;exact H.fresh g hg)
   rw [ee.2 g fT];exact H.top g hg
 · intro g hg
   by_cases fT:g=f
   · subst fT;exact ee.1
   · rw [aY.mi _ _ fT]at hg;rw [ee.2 g fT];exact H.dead g hg
 · intro g b e m hg;obtain⟨fT,hg⟩:=key g b e m hg;obtain⟨o1,o2,a1,a2,a3,a4⟩:=H.obj g b e m hg;exact⟨o1,o2,by rw [ee.2 g fT];exact a1,a2,a3.ext hE,a4⟩
end
theorem dX {c k}(h:iff c k=true):c=true∧k=true:=(iff_eq c k).1 h
theorem B9 {vs k}(h:a0 vs k=true):vs=[]∧k=true:=by cases vs<;>first | exact⟨rfl,h⟩ | cases h
theorem iU {vs k}(h:a1 vs k=true):∃x,vs=[x]∧k x=true:=by
 cases vs with
 | nil=>cases h
 | cons x vs=>obtain⟨rfl,h⟩:=B9 (show a0 vs (k x)=true from h);exact⟨x,rfl,h⟩
theorem lx {vs k}(h:a2 vs k=true):∃x y,vs=[x,y]∧k x y=true:=by
 cases vs with
 | nil=>cases h
 | cons x vs=>obtain⟨y,rfl,h⟩:=iU (show a1 vs (k x)=true from h);exact⟨x,y,rfl,h⟩
theorem ajk {vs k}(h:a3 vs k=true):∃x y z,vs=[x,y,z]∧k x y z=true:=by
 cases vs with
 | nil=>cases h
 | cons x vs=>obtain⟨y,z,rfl,h⟩:=lx (show a2 vs (k x)=true from h);exact⟨x,y,z,rfl,h⟩
theorem LR.one {φ x l'}(h:LR φ [x] l'):∃x',l'=[x']∧VR φ x x':=by
 cases h with | cons _ x' _ l' h hl=>cases hl;exact⟨x',rfl,h⟩
theorem LR.two {φ x y l'}(h:LR φ [x,y] l'):∃x' y',l'=[x',y']∧VR φ x x'∧VR φ y y':=by
 cases h with | cons _ x' _ l' h hl=>obtain⟨y',rfl,hy⟩:=hl.one;exact⟨x',y',rfl,h,hy⟩
theorem LR.three {φ x y z l'}(h:LR φ [x,y,z] l'):∃x' y' z',l'=[x',y',z']∧VR φ x x'∧VR φ y y'∧VR φ z z':=by
 cases h with | cons _ x' _ l' h hl=>obtain⟨y',z',rfl,hy,hz⟩:=hl.two;exact⟨x',y',z',rfl,h,hy,hz⟩
theorem qY {v k}(h:mB v k=true):∃a,v= .pointer (some a)∧k a.block a.off=true:=by
 unfold mB at h;split at h
 · rename_i a;exact⟨a,rfl,h⟩
 · cases h
theorem Ie {v k}(h:Ay v k=true):∃a,v= .agg a∧k a.toList=true:=by
 unfold Ay at h;split at h
 · rename_i a;exact⟨a,rfl,h⟩
 · cases h
theorem axB {v k}(h:Tj v k=true):∃a,v= .tuple a∧k a.toList=true:=by
 unfold Tj at h;split at h
 · rename_i a;exact⟨a,rfl,h⟩
 · cases h
theorem Lv {v k}(h:Az v k=true):∃b,v= .bool b∧k b=true:=by
 unfold Az at h;split at h
 · exact⟨_,rfl,h⟩
 · cases h
theorem tt {v k}(h:pN v k=true):∃kd n,v= .int kd n∧k kd n=true:=by
 unfold pN at h;split at h
 · exact⟨_,_,rfl,h⟩
 · cases h
theorem ql {v k}(h:mX v k=true):∃s,v= .string s∧k s=true:=by
 unfold mX at h;split at h
 · exact⟨_,rfl,h⟩
 · cases h
theorem wZ {v kn k}(h:pO v kn k=true):(∃l c,v= .slice none l c∧kn=true)∨∃a l c,v= .slice (some a) l c∧k a.block a.off l c=true:=by
 unfold pO at h;split at h
 · exact .inl ⟨_,_,rfl,h⟩
 · rename_i a l c;exact .inr ⟨a,l,c,rfl,h⟩
 · cases h
theorem SG {v kn k}(h:Fe v kn k=true):(v= .map none∧kn=true)∨∃r,v= .map (some r)∧k r=true:=by
 unfold Fe at h;split at h
 · exact .inl ⟨rfl,h⟩
 · exact .inr ⟨_,rfl,h⟩
 · cases h
theorem Ai {v k}(h:vV v k=true):∃kd n,v= .int kd (Int.ofNat n)∧k n=true:=by
 obtain⟨kd,n,rfl,h⟩:=tt h;cases n with
 | ofNat n=>exact⟨kd,n,rfl,h⟩
 | negSucc n=>cases h
theorem Fu {h b k}(e:uU h b k=true):∃o,h.ob.get b=some o∧k o=true:=NT.EO _ _ _ (show NT.fY h.ob b k=true from by cases h;exact e)
theorem AM {h b k}(e:rf h b k=true):∃lo hi ty rw c,h.ob.get b=some (.cells lo hi ty rw c)∧k lo hi ty rw c=true:=by
 obtain⟨o,h1,h2⟩:=Fu e;cases o<;>first | exact⟨_,_,_,_,_,h1,h2⟩ | cases h2
theorem EU {h b k}(e:o4 h b k=true):∃es cl,h.ob.get b=some (.map es cl)∧k es cl=true:=by
 obtain⟨o,h1,h2⟩:=Fu e;cases o<;>first | exact⟨_,_,h1,h2⟩ | cases h2
theorem Lu {h b k}(e:uT h b k=true):∃l,h.ob.get b=some (.loop l)∧k l=true:=by
 obtain⟨o,h1,h2⟩:=Fu e;cases o<;>first | exact⟨_,h1,h2⟩ | cases h2
theorem awv {h b k}(e:HV h b k=true):∃l,h.ob.get b=some (.defs l)∧k l=true:=by
 obtain⟨o,h1,h2⟩:=Fu e;cases o<;>first | exact⟨_,h1,h2⟩ | cases h2
theorem auZ {h b k}(e:Ti h b k=true):∃s p,h.ob.get b=some (.kP s p)∧k s p=true:=by
 obtain⟨o,h1,h2⟩:=Fu e;cases o<;>first | exact⟨_,_,h1,h2⟩ | cases h2
theorem uQ {h b o k}(e:kQ h b o k=true):∃bU,h.ob.mU b o bU∧k ⟨h.nx,bU⟩=true:=by
 cases h with
 | mk nx ob=>exact NT.SB _ _ _ _ _ (show NT.lh (wW b) ob b o (fun bU=>k ⟨nx,bU⟩)=true from e)
theorem B8 {h o k}(e:qs h o k=true):∃bU,h.ob.mU h.nx (some o) bU∧k h.nx ⟨h.nx+1,bU⟩=true:=by
 cases h with
 | mk nx ob=>
  obtain⟨bU,h1,h2⟩:=NT.SB _ _ _ _ _ (show NT.lh (wW nx) ob nx (some o) (fun bU=>fN (Nat.succ nx) fun yA=>k nx ⟨yA,bU⟩)=true from e);rw [dG]at h2;exact⟨bU,h1,h2⟩
theorem TV:∀(l:ZZE){c:NT Z}{i:Nat}{k:NT Z→Bool},Fc c i l k=true→
 ∃c',k c'=true∧(∀j v,l[j]? =some v→c'.get (i+j)=some v)∧∀p,(p<i∨i+l.length≤p)→c'.get p=c.get p
 | [],c,i,k,h=>⟨c,h,fun j v e=>by simp at e,fun _ _=>rfl⟩
 | v::l,c,i,k,h=>by
  obtain⟨c1,⟨h1,h2⟩,h3⟩:=NT.SB _ _ _ _ _ (show NT.lh (wW i) c i (some v) (fun c'=>fN (Nat.succ i) fun i'=>Fc c' i' l k)=true from h);rw [dG]at h3;obtain⟨c',a,b,d⟩:=TV l h3;refine⟨c',a,fun j u e=>?_,fun p hp=>?_⟩
  · cases j with
    | zero=>
     simp at e;subst e;rw [d (i+0) (.inl (by omega))];exact h1
    | succ j=>
     have:=b j u (by simpa using e);rw [show i+(j+1)=Nat.succ i+j by omega];exact this
  · simp only [zaE]at hp;rw [d p (by omega),h2 p (by omega)]
theorem TJ:∀(n:Nat){c:NT Z}{i:Nat}{k:ZZE→Bool},vU c i n k=true→∃l,k l=true∧l.length=n∧∀j v,l[j]? =some v→c.get (i+j)=some v
 | 0,c,i,k,h=>⟨[],h,rfl,fun j v e=>by simp at e⟩
 | n+1,c,i,k,h=>by
  obtain⟨v,h1,h2⟩:=NT.EO _ _ _ (show NT.fY c i (fun v=>fN (Nat.succ i) fun i'=>vU c i' n fun l=>k (v::l))=true from h);rw [dG]at h2;obtain⟨l,a,b,d⟩:=TJ n h2;refine⟨v::l,a,by simp [b],fun j u e=>?_⟩;cases j with
  | zero=>simp at e;subst e;exact h1
  | succ j=>rw [show i+(j+1)=Nat.succ i+j by omega];exact d j u (by simpa using e)
theorem Mg:∀(l:ZZE){n:Nat}{k:Z→Bool},vT l n k=true→∃v,l[n]? =some v∧k v=true
 | [],n,k,h=>by cases h
 | x::l,0,k,h=>⟨x,rfl,h⟩
 | x::l,n+1,k,h=>by
  obtain⟨v,h1,h2⟩:=Mg l (show vT l n k=true from h);exact⟨v,by simpa using h1,h2⟩
theorem TW:∀(l:ZZE){n:Nat}{k:ZZE→Bool},yy l n k=true→k (l.take n)=true∧n≤l.length
 | [],0,k,h=>⟨h,by simp⟩
 | [],n+1,k,h=>by cases h
 | x::l,0,k,h=>⟨h,by simp⟩
 | x::l,n+1,k,h=>by
  obtain⟨h1,h2⟩:=TW l (show yy l n (fun l'=>k (x::l'))=true from h);exact⟨by simpa using h1,by simpa using h2⟩
theorem TX:∀(l:ZZE){n:Nat}{k:ZZE→Bool},yz l n k=true→k (l.drop n)=true∧n≤l.length
 | [],0,k,h=>⟨h,by simp⟩
 | [],n+1,k,h=>by cases h
 | x::l,0,k,h=>⟨h,by simp⟩
 | x::l,n+1,k,h=>by
  obtain⟨h1,h2⟩:=TX l (show yz l n k=true from h);exact⟨by simpa using h1,by simpa using h2⟩
theorem acT:∀(l vs:ZZE){k:ZZE→Bool},re l vs k=true→k (vs++l.drop vs.length)=true∧vs.length≤l.length
 | [],[],k,h=>⟨h,by simp⟩
 | [],_::_,k,h=>by cases h
 | x::l,[],k,h=>⟨h,by simp⟩
 | x::l,v::vs,k,h=>by
  obtain⟨h1,h2⟩:=acT l vs (show re l vs (fun l'=>k (v::l'))=true from h);exact⟨by simpa using h1,by simpa using h2⟩
theorem ajp:∀(l:ZZE){n:Nat}{vs:ZZE}{k:ZZE→Bool},vG l n vs k=true→k (l.take n++vs++l.drop (n+vs.length))=true∧n+vs.length≤l.length
 | [],0,vs,k,h=>by
  obtain⟨h1,h2⟩:=acT [] vs (show re [] vs k=true from h);exact⟨by simpa using h1,by simpa using h2⟩
 | [],n+1,vs,k,h=>by cases h
 | x::l,0,vs,k,h=>by
  obtain⟨h1,h2⟩:=acT (x::l) vs (show re (x::l) vs k=true from h);exact⟨by simpa using h1,by simpa using h2⟩
 | x::l,n+1,vs,k,h=>by
  obtain⟨h1,h2⟩:=ajp l (show vG l n vs (fun l'=>k (x::l'))=true from h);refine⟨?_,by simp;omega⟩;rw [show n+1+vs.length=(n+vs.length)+1 by omega];simpa using h1
theorem SM:∀(l:ZZE){n:Nat},mA l n=true→l.length=n
 | [],0,h=>rfl
 | [],n+1,h=>by cases h
 | x::l,0,h=>by cases h
 | x::l,n+1,h=>by have:=SM l (show mA l n=true from h);simp [this]
theorem TY:∀(l:ZZE),fi l=true→∀v∈l,iA v=true
 | [],h,v,hv=>by simp at hv
 | x::l,h,v,hv=>by
  have h':(bif iA x then fi l else false)=true:=h;cases hx:iA x with
  | false=>rw [hx]at h';cases h'
  | true=>
   rw [hx]at h';rcases List.mem_cons.1 hv with rfl | hv
   · exact hx
   · exact TY l (by simpa using h') v hv
theorem Ah:∀(l m:ZZE){k:ZZE→Bool},mc l m k=true→k (l++m)=true
 | [],m,k,h=>h
 | x::l,m,k,h=>Ah l m (show mc l m (fun l'=>k (x::l'))=true from h)
theorem HD (v:Z):cellsOf v=v.cells.toList:=by
 cases v<;>rfl
theorem VR.iA {φ v v'}(h:VR φ v v')(ho:iA v=true):v'.oneCell'=true:=by
 cases h<;>first | rfl | (simp [Ve.iA]at ho)
theorem Aj {h ty l k}(e:pM h ty l k=true):
 (∀v∈l,iA v=true)∧∃c bU,(∀j v,l[j]? =some v→c.get j=some v)∧h.ob.mU h.nx (some (.cells 0 l.length ty true c)) bU∧k h.nx ⟨h.nx+1,bU⟩=true:=by
 obtain⟨h1,h2⟩:=dX e;obtain⟨c,h3,h4,_⟩:=TV l h2;rw [dG]at h3;obtain⟨bU,h5,h6⟩:=B8 h3;exact⟨TY l h1,c,bU,fun j v e=>by simpa using h4 j v e,h5,h6⟩
theorem B7 {h b off n k}(e:pL h b off n k=true):∃lo hi ty rw c l,h.ob.get b=some (.cells lo hi ty rw c)∧lo≤off∧off+n≤hi∧l.length=n∧
 (∀j v,l[j]? =some v→c.get (off+j)=some v)∧k l=true:=by
 obtain⟨lo,hi,ty,rw,c,h1,h2⟩:=AM e;obtain⟨h3,h4⟩:=dX h2;simp only [zae]at h3;obtain⟨l,h5,h6,h7⟩:=TJ n h4;exact⟨lo,hi,ty,rw,c,l,h1,zaa h3.1,zaa h3.2,h6,h7,h5⟩
theorem S9 {h b off k}(e:yw h b off k=true):∃lo hi ty rw c v,h.ob.get b=some (.cells lo hi ty rw c)∧lo≤off∧off<hi∧c.get off=some v∧k v=true:=by
 obtain⟨lo,hi,ty,rw,c,h1,h2⟩:=AM e;obtain⟨h3,h4⟩:=dX h2;simp only [zae]at h3;obtain⟨v,h5,h6⟩:=NT.EO _ _ _ h4;exact⟨lo,hi,ty,rw,c,v,h1,zaa h3.1,zaa h3.2,h5,h6⟩
theorem abl {h b off l k}(e:xd h b off l k=true):∃lo hi ty c c' bU,h.ob.get b=some (.cells lo hi ty true c)∧lo≤off∧off+l.length≤hi∧
 (∀v∈l,iA v=true)∧(∀j v,l[j]? =some v→c'.get (off+j)=some v)∧(∀p,(p<off∨off+l.length≤p)→c'.get p=c.get p)∧
 h.ob.mU b (some (.cells lo hi ty true c')) bU∧k ⟨h.nx,bU⟩=true:=by
 obtain⟨lo,hi,ty,rw,c,h1,h2⟩:=AM e;obtain⟨h3,h4⟩:=dX h2;simp only [zae]at h3;obtain⟨⟨⟨r1,r2⟩,r3⟩,r4⟩:=h3;subst r1;obtain⟨c',h5,h6,h7⟩:=TV l h4;obtain⟨bU,h8,h9⟩:=uQ h5;exact⟨lo,hi,ty,c,c',bU,h1,zaa r2,zaa r3,TY l r4,h6,h7,h8,h9⟩
section
variable {P:Program}{w0 w:World}{φ:aY}{h:AH}
theorem HR.at (H:HR P w0 φ h w){a a':Addr}{lo hi:Nat}{ty:TypeId}{rw:Bool}{c:NT Z}(hs:φ a.block≠none)(ha:AtR φ a a')(ho:h.ob.get a.block=some (.cells lo hi ty rw c)):
 ∃b d arr fr,φ a.block=some (.live b d arr.size)∧a'.block=b∧a'.off+d=a.off∧a'.spot=none∧w.heap[b]? =some (.cells arr ty fr)∧d≤lo∧
  (∀p,lo≤p→p<hi→∃v v',c.get p=some v∧arr[p-d]? =some v'∧VR φ v v')∧(rw=true→w0.heap.size≤b)∧(rw=true→fr=(0,0)):=by
 obtain⟨b,d,n,o',h1,h2,h3,h4⟩:=H.live hs ho;obtain⟨e1,e2,e3⟩:=ha b d n h1;cases h3 with
 | cells _ _ _ _ _ _ _ arr fr vR hd hn hc=>subst hn;exact⟨b,d,arr,fr,h1,e1,e2,e3,h2,hd,hc,h4,vR⟩
theorem si (a:Addr)(hs:a.spot=none)(n:Nat):a.add n=⟨a.block,a.off+n,none⟩:=by
 unfold Addr.add;split
 · subst_vars;cases a;simp_all
 · cases a;simp_all
theorem HR.cell (H:HR P w0 φ h w){a a':Addr}{lo hi:Nat}{ty:TypeId}{rw:Bool}{c:NT Z}(hs:φ a.block≠none)(ha:AtR φ a a')(ho:h.ob.get a.block=some (.cells lo hi ty rw c))
 {j:Nat}{v:Z}(h1:lo≤a.off+j) (h2:a.off+j<hi) (hv:c.get (a.off+j)=some v):∃v',w.cell? (a'.add j)=some v'∧VR φ v v':=by
 obtain⟨b,d,arr,fr,_,e1,e2,e3,h3,hd,hc,_⟩:=H.at hs ha ho;obtain⟨u,v',g1,g2,g3⟩:=hc _ h1 h2;rw [hv]at g1;cases g1;refine⟨v',?_,g3⟩;rw [si a' e3,World.cell?,e1,h3];simp only [Option.isSome_none,Bool.false_eq_true,if_false];rw [show a'.off+j=a.off+j-d by omega];exact g2
theorem HR.cells (H:HR P w0 φ h w){a a':Addr}{lo hi:Nat}{ty:TypeId}{rw:Bool}{c:NT Z}(hs:φ a.block≠none)(ha:AtR φ a a')(ho:h.ob.get a.block=some (.cells lo hi ty rw c))
 {l:ZZE}(h1:lo≤a.off) (h2:a.off+l.length≤hi) (hv:∀j v,l[j]? =some v→c.get (a.off+j)=some v):
 ∃l',LR φ l l'∧∀w',w'.heap=w.heap→(loadCells a' l.length).run P w'= .ok l'.toArray w':=by
 have key:∀j,j<l.length→∃v',w.cell? (a'.add j)=some v'∧VR φ (l.getD j undef) v':=by
  intro j hj;have e:l[j]? =some (l.getD j undef):=by simp [List.getD,zab hj]
  exact H.cell hs ha ho (by omega) (by omega) (hv j _ e)
 refine⟨(List.range l.length).map fun j=>(w.cell? (a'.add j)).getD undef,LR.abh (by simp) ?_,fun w' hw=>?_⟩
 · intro j v v' e e';have hj:j<l.length:=(List.getElem?_eq_some_iff.1 e).1;obtain⟨u,h3,h4⟩:=key j hj;simp [hj,h3]at e';subst e';simpa [List.getD,e]using h4
 · refine run_loadCells w' a' l.length _ fun j hj=>?_;obtain⟨u,h3,_⟩:=key j hj;have:w'.cell? (a'.add j)=w.cell? (a'.add j):=by simp [World.cell?,hw]
   rw [this,h3];rfl
theorem HR.write (H:HR P w0 φ h w){a a':Addr}{lo hi:Nat}{ty:TypeId}{c c':NT Z}{bU:NT AO}(hs:φ a.block≠none)(ha:AtR φ a a')(ho:h.ob.get a.block=some (.cells lo hi ty true c))
 {l l':ZZE}(h1:lo≤a.off) (h2:a.off+l.length≤hi) (hl:LR φ l l') (w4:∀v∈l,iA v=true)
 (hv:∀j v,l[j]? =some v→c'.get (a.off+j)=some v) (pJ:∀p,(p<a.off∨a.off+l.length≤p)→c'.get p=c.get p)
 (ee:h.ob.mU a.block (some (.cells lo hi ty true c')) bU):
 ∃w',(storeCells a' l').run P w= .ok () w'∧HR P w0 φ ⟨h.nx,bU⟩ w'∧w'.drawn=w.drawn:=by
 obtain⟨b,d,arr,fr,SZ,e1,e2,e3,h3,hd,hc,hb,vR⟩:=H.at hs ha ho;obtain rfl:=vR rfl;have hlen:=LR.length hl
 have je:∀j,j<l.length→a.off+j-d<arr.size:=fun j hj=>by
  obtain⟨_,_,_,g,_⟩:=hc (a.off+j) (by omega) (by omega);exact(Array.getElem?_eq_some_iff.1 g).1
 rcases Nat.eq_zero_or_pos l.length with hz | hz
 · have o3:l'=[]:=zbe (by omega);subst o3;refine⟨w,rfl,H.nK SZ ee rfl ?_ (hb rfl) h3 (fun _ _=>rfl) rfl rfl rfl rfl,rfl⟩;refine .cells _ _ _ _ _ _ _ _ _ (fun _=>rfl) hd rfl fun p q1 q2=>?_;obtain⟨v,v',m1,m2,m3⟩:=hc p q1 q2;exact⟨v,v',by rw [pJ p (by omega)];exact m1,m2,m3⟩
 have Ig:a'.off+0+l'.length≤arr.size:=by
  have:=je (l.length-1) (by omega);omega
 have axC:∀v∈l',v.oneCell'=true:=by
  intro v' pJ;obtain⟨j,hj⟩:=zaV pJ;have Mh:j<l.length:=by rw [hlen];exact(List.getElem?_eq_some_iff.1 hj).1
  obtain⟨u,hu,hr⟩:=LR.get hl j _ (zab Mh);rw [hj]at hu;cases hu;exact hr.iA (w4 _ (zbl Mh))
 have ea:a'=⟨b,a'.off,none⟩:=by cases a';simp_all
 have dT:=run_storeCells_at (P:=P) b a'.off ty l' 0 arr w h3 Ig axC;rw [←ea]at dT;refine⟨_,dT,?_,rfl⟩;generalize hX:(List.take (a'.off+0) arr.toList++l'++List.drop (a'.off+0+l'.length) arr.toList).toArray=X;have hXs:X.size=arr.size:=by subst hX;simp;omega
 have hXg:∀p,X[p]? =if p<a'.off then arr[p]? else if p<a'.off+l'.length then l'[p-a'.off]? else arr[p]? :=by
  intro p;subst hX;simp only [List.getElem?_toArray,List.getElem?_append,za3,zaG,List.getElem?_take,List.getElem?_drop,Array.getElem?_toList,Array.length_toList,Nat.add_zero];have hm:min a'.off arr.size=a'.off:=by omega
  rw [hm]
  by_cases q1:p<a'.off
  · simp [q1,show p<a'.off+l'.length by omega]
  · by_cases q2:p<a'.off+l'.length
    · simp [q1,q2]
    · simp only [q1,q2,if_false]
      congr 1;omega
 refine H.nK SZ ee rfl ?_ (hb rfl) (setRow_heap w b arr X ty (0,0) h3) (fun k hk=>?_) (by simp) rfl rfl rfl
 · refine .cells _ _ _ _ _ _ _ _ _ (fun _=>rfl) hd hXs.symm fun p q1 q2=>?_;rw [hXg]
   by_cases g1:a.off≤p∧p<a.off+l.length
   · obtain⟨g1,g2⟩:=g1;obtain⟨j,rfl⟩:∃j,p=a.off+j:=⟨p-a.off,by omega⟩;have hj:j<l.length:=by omega
     obtain⟨u,hu,hr⟩:=LR.get hl j _ (zab hj);refine⟨l[j],u,hv j _ (zab hj),?_,hr⟩;rw [if_neg (by omega),if_pos (by omega),show a.off+j-d-a'.off=j by omega];exact hu
   · obtain⟨v,v',m1,m2,m3⟩:=hc p q1 q2;refine⟨v,v',by rw [pJ p (by omega)];exact m1,?_,m3⟩;split
     · exact m2
     · rw [if_neg (by omega)];exact m2
 · unfold World.setRow;simp only [zbA];rw [if_neg (by omega)]
end
end Go.Ve
