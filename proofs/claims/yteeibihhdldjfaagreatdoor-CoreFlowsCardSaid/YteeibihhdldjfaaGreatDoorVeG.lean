/- Part 7: VEval, part 9: append, copy, make, maps, strings, composite values. No condition. And what follows it. -/
import Derived.Test.YteeibihhdldjfaaGreatDoorVeF
import Derived.MapKept
set_option linter.unusedVariables false
set_option linter.unusedSimpArgs false
namespace Go.Ve
open Go.RowKit
section
variable {P:Program}{w0 w:World}{φ:aO}{h:AH}{ρ:Operand→Value}{o:Oper}{vs:List Value}{k:KV}
theorem ano {x:Value}{x':Value}{sz:Nat}{kk:Nat→List Value→Bool}(H:HR P w0 φ h w) (hr:VR φ x x') (e:mX h sz x kk=true) :
 ∃n xs oB,kk n xs=true∧xs.length=n*sz∧LR φ xs oB∧(Builtin.lenOf x').run P w= .ok n w∧∀w',w'.heap=w.heap→(Builtin.firstCells sz n x').run P w'= .ok oB.toArray w':=by
 unfold mX at e
 rcases qU e with⟨l0,c0,ar,e1⟩ | ⟨a,len,cap,ar,e1⟩<;>clear e<;>subst ar
 · obtain⟨rfl,rfl,hx⟩:=hr.sw
   subst hx
   exact⟨0,[],[],e1,by simp,.nil,by simp [Builtin.lenOf],fun w' _=>by simp [Builtin.firstCells]⟩
 · obtain⟨a',dJ,hx,hs,hc⟩:=hr.pW
   subst hx
   by_cases hn:len=0
   · subst hn
     rw [ma rfl,cond_true]at e1
     exact⟨0,[],[],e1,by simp,.nil,by simp [Builtin.lenOf],fun w' _=>by simp [Builtin.firstCells,loadCells,loadCellsFrom]⟩
   · rw [gg hn,cond_false]at e1
     have dH:AtR φ a a':=by
      rcases hc with⟨h1,h2,uz,h3⟩ | ⟨sz,h1,h2,h3,h4⟩
      · exact h3 (by omega)
      · exact(h4 (by omega)).1
     obtain⟨lo,hi,ty,oh,c,l,g1,g2,g3,g4,g5,g6⟩:=wh e1
     have F8:a.off+l.length≤hi:=by rw [g4];exact g3
     obtain⟨l',q1,q2⟩:=H.cells (P:=P) hs dH g1 g2 F8 g5
     refine⟨len,l,l',g6,g4,q1,by simp [Builtin.lenOf],fun w' hw=> ?_⟩
     have:=q2 w' hw
     rw [g4]at this
     exact this
theorem Mv {ox:Array TypeId}{t u e eu ty:TypeId}{i:TypeInfo}(ht:P.underlying t=some (.slice e)) (hu:P.underlying u=some (.slice eu)∨P.underlying u=some .string) (hi:P.info? e=some i) (h0:ox[0]? =some t) (h1:ox[1]? =some u)
 {a:Option Addr}{sLen sCap n:Nat}{x:Value}{news:List Value}{w2:World}(hlen:(Builtin.lenOf x).run P w= .ok n w) (hf:(Builtin.firstCells i.size n x).run P w= .ok news.toArray w)
 (kp:(match a with | some b=>(storeCells (b.add (sLen*i.size)) news).run P w | none=>.ok () w)= .ok () w2) (pC:sLen+n≤sCap) :
 (Builtin.append_ ox ty #[.slice a sLen sCap,x]).run P w= .ok (.slice a (sLen+n) sCap) w2:=by
 have h0':ox[0]? =some t:=h0
 cases a with
 | none =>
  simp only [Result.ok.injEq]at kp
  obtain⟨_,rfl⟩:=kp
  rcases hu with hu | hu<;>simp [Builtin.append_,h0,h1,run_underlying ht,run_underlying hu,sizeOf,typeInfo,hi,hlen,pC,hf]
 | some b =>
  rcases hu with hu | hu<;>simp [Builtin.append_,h0,h1,run_underlying ht,run_underlying hu,sizeOf,typeInfo,hi,hlen,pC,hf,kp]
theorem Mw {ox:Array TypeId}{t u e eu ty:TypeId}{i:TypeInfo}{z:Value}(ht:P.underlying t=some (.slice e)) (hu:P.underlying u=some (.slice eu)∨P.underlying u=some .string) (hi:P.info? e=some i) (hz:i.zero=some z) (h0:ox[0]? =some t) (h1:ox[1]? =some u)
 {a:Option Addr}{sLen sCap n:Nat}{x:Value}{olds news:List Value}(hlen:(Builtin.lenOf x).run P w= .ok n w) (hf:∀w',w'.heap=w.heap→(Builtin.firstCells i.size n x).run P w'= .ok news.toArray w')
 (Mu:∀w',w'.heap=w.heap→(Builtin.firstCells i.size sLen (.slice a sLen sCap)).run P w'= .ok olds.toArray w') (hg:sCap<sLen+n) (hb:(sLen+n)*i.bytes≤140737488355328) (awl:sLen+n≤1048576) :
 ∃nc,sLen+n≤nc∧(Builtin.append_ ox ty #[.slice a sLen sCap,x]).run P w= .ok (.slice (some ⟨w.heap.size,0,none⟩) (sLen+n) nc) (w.drew.alloc (.cells ((olds++news).toArray++Builtin.zeroCells z.cells (nc-(sLen+n))) e)):=by
 refine⟨grownCap w (sLen+n) sCap e,grownCap_ge w _ _ _, ?_⟩
 have hn:¬(sLen+n≤sCap):=by omega
 have Lt:¬(9223372036854775807<((sLen:Int)+(n:Int))):=by omega
 have Ci:=growslice_fits (bytes:=i.bytes) hg hb
 have adU:¬(281474976710656<Builtin.nextslicecap (sLen+n) sCap*i.bytes):=by omega
 have zg:=hf w.drew rfl
 have zh:=Mu w.drew rfl
 rcases hu with hu | hu
 · simp [Builtin.append_,h0,h1,run_underlying ht,run_underlying hu,sizeOf,typeInfo,zeroValue,hi,hz,hlen,hn,Lt,adU,Question.forced,zg,zh,newRow,grownCap]
   rw [←Array.append_assoc]
   simp
 · simp [Builtin.append_,h0,h1,run_underlying ht,run_underlying hu,sizeOf,typeInfo,zeroValue,hi,hz,hlen,hn,Lt,adU,Question.forced,zg,zh,newRow,grownCap]
   rw [←Array.append_assoc]
   simp
theorem AtR.add {a a':Addr}(h:AtR φ a a') (n:Nat):AtR φ ⟨a.block,a.off+n,none⟩ (a'.add n):=by
 intro b d m hl
 obtain⟨e1,e2,e3⟩:=h b d m hl
 rw [nR a' e3]
 exact⟨e1,by show a'.off+n+d=a.off+n;omega,rfl⟩
theorem PR.anp (H:HR P w0 φ h w){ty:TypeId}{l l':List Value}(hl:LR φ l l'){arr:Array Value}(anq:∀(j:Nat) (v:Value),l'[j]? =some v→arr[j]? =some v){c:NT Value}{o:Nat}{bj:NT AO}(hc:∀(j:Nat) (v:Value),l[j]? =some v→c.get (o+j)=some v)
 (cM:h.ob.ko h.nx (some (.cells o (o+l.length) ty true c)) bj) :
 HR P w0 (φ.put h.nx (.live w.heap.size o arr.size)) ⟨h.nx+1,bj⟩ (w.alloc (.cells arr ty))∧Ext h.nx φ (φ.put h.nx (.live w.heap.size o arr.size)):=by
 refine H.newAt (H.fresh _ (Nat.le_refl _)) cM.1 (fun g hg _=>cM.2 g hg) (fun g hg=>H.fresh g (by simp only at hg;omega)) (fun g hg=>by rw [cM.2 g (by simp only at hg;omega)];exact H.top g (by simp only at hg;omega)) (by simp) _ (Nat.le_refl _) ?_
 refine .cells _ _ _ _ _ _ _ _ _ (fun _=>rfl) (Nat.le_refl _) rfl fun p RN RO=> ?_
 obtain⟨j,rfl⟩:∃j,p=o+j:=⟨p-o,by omega⟩
 have hj:j<l.length:=by omega
 obtain⟨u,hu,hr⟩:=LR.get hl j _ (List.getElem?_eq_getElem hj)
 exact⟨l[j],u,hc j _ (List.getElem?_eq_getElem hj),by rw [show o+j-o=j by omega];exact anq j u hu,hr⟩
theorem HR.drew (H:HR P w0 φ h w):HR P w0 φ h w.drew:=H.world rfl rfl rfl rfl
theorem PR.Mx {r:Result Next}(H:HR P w0 φ h w){ty:TypeId}{l l':List Value}{z:Value}{sz n nc o:Nat}(fQ:0<sz) (hz:z.cells.size=sz) (hl:LR φ l l') (hlen:l.length=n*sz) (R7:n≤nc){c:NT Value}{bj:NT AO}
 (hc:∀(j:Nat) (v:Value),l[j]? =some v→c.get (o+j)=some v) (cM:h.ob.ko h.nx (some (.cells o (o+l.length) ty true c)) bj){k:KV}(e:k (.slice (some ⟨h.nx,o,none⟩) n (bg+sz)) ⟨h.nx+1,bj⟩=true)
 (hr:r= .ok (.value (.slice (some ⟨w.heap.size,0,none⟩) n nc)) (w.drew.alloc (.cells (l'.toArray++Builtin.zeroCells z.cells (nc-n)) ty))):PR P w0 φ h r fun v h'=>k v h'=true:=by
 obtain⟨g1,g2⟩:=PR.anp (P:=P) H.drew (arr:=l'.toArray++Builtin.zeroCells z.cells (nc-n)) hl (fun j v hj=>by
  have:j<l'.length:=(List.getElem?_eq_some_iff.1 hj).1
  rw [Array.getElem?_append]
  simp [this]
  simpa using (List.getElem?_eq_some_iff.1 hj).2) hc cM
 refine⟨_,_,_,_,_,.inl hr,e,g2,by simp,.sl _ _ _ _ _ (by simp [aO.put]) (.inr ⟨sz,rfl,fQ,R7,fun _=>⟨fun b d m hl=> ?_,fun b d m hl=> ?_⟩⟩),g1⟩
 · simp only [aO.jG]at hl
   cases hl
   exact⟨rfl,by show 0+o=o;omega,rfl⟩
 · simp only [aO.jG]at hl
   cases hl
   have h2:=hl.length
   simp only [Array.size_append,List.size_toArray,size_zeroCells,hz]
   rw [←h2,hlen,←Nat.add_mul]
   show 0+nc*sz≤_
   have:n+(nc-n)=nc:=by omega
   rw [this];omega
theorem HR.anr (H:HR P w0 φ h w){a a':Addr}{lo hi:Nat}{ty:TypeId}{rw:Bool}{c:NT Value}(hs:φ a.block≠none) (ha:AtR φ a a') (ho:h.ob.get a.block=some (.cells lo hi ty rw c)) (m:Nat) (h1:lo≤a.off) (h2:a.off+m≤hi) :
 ∃l l',l.length=m∧(∀j v,l[j]? =some v→c.get (a.off+j)=some v)∧LR φ l l'∧∀w',w'.heap=w.heap→(loadCells a' m).run P w'= .ok l'.toArray w':=by
 obtain⟨b,d,arr,_,_,_,_,_,_,_,hc,_⟩:=H.at hs ha ho
 let l:=(List.range m).map fun j=>(c.get (a.off+j)).getD undef
 have pa:l.length=m:=by simp [l]
 have qw:∀j v,l[j]? =some v→c.get (a.off+j)=some v:=by
  intro j v hj
  have hjm:j<m:=by have:=(List.getElem?_eq_some_iff.1 hj).1;omega
  obtain⟨u,u',q1,_,_⟩:=hc (a.off+j) (by omega) (by omega)
  simp [l,hjm,q1]at hj
  rw [q1,hj]
 obtain⟨l',q1,q2⟩:=H.cells (P:=P) hs ha ho h1 (by omega) qw
 exact⟨l,l',pa,qw,q1,fun w' hw=>by have:=q2 w' hw;rwa [pa]at this⟩
theorem HR.ans (H:HR P w0 φ h w){f B d n:Nat}{o:AO}{o':Obj}{h':AH}{w':World}(hf:φ f=none) (hB:∀g b d n,φ g=some (.live b d n)→b≠B) (cM:h.ob.ko f (some o) h'.ob) (kG:h.nx≤h'.nx) (hnf:f<h'.nx) (N:Nat) (hN:N≤f)
 (ho:OR P φ d n o o') (hb:w0.heap.size≤B) (h1:w'.heap[B]? =some o') (h2:∀k,k≠B→w'.heap[k]? =w.heap[k]?) (h3:w'.heap.size=w.heap.size) (h4:w'.os=w.os) (h5:w'.tape=w.tape) (h6:w'.output=w.output) :
 HR P w0 (φ.put f (.live B d n)) h' w'∧Ext N φ (φ.put f (.live B d n)):=by
 have hE:Ext N φ (φ.put f (.live B d n)):=aO.Lx φ _ hf hN
 have key:∀g b e m,(φ.put f (.live B d n)) g=some (.live b e m)→(g=f∧b=B∧e=d∧m=n)∨(g≠f∧φ g=some (.live b e m)∧b≠B):=by
  intro g b e m hg
  by_cases ee:g=f
  · subst ee;rw [aO.jG]at hg;cases hg;exact .inl ⟨rfl,rfl,rfl,rfl⟩
  · rw [aO.jK _ _ ee]at hg
    exact .inr ⟨ee,hg,hB g b e m hg⟩
 refine⟨⟨?_, ?_,fun g hg=>by rw [cM.2 g (by omega)];exact H.top g (by omega), ?_, ?_, ?_⟩,hE⟩
 · intro g g' b e e' m m' qu hg rh
   rcases key g b e m hg with⟨a1,a2,_⟩ | ⟨a1,a2,a3⟩<;>rcases key g' b e' m' rh with⟨b1,b2,_⟩ | ⟨b1,b2,b3⟩
   · rw [a1,b1]
   · exact absurd a2 b3
   · exact absurd b2 a3
   · exact H.inj g g' b e e' m m' qu a2 b2
 · intro g hg
   rw [aO.jK _ _ (by omega)]
   exact H.fresh g (by omega)
 · intro g hg
   by_cases ee:g=f
   · subst ee;rw [aO.jG]at hg;cases hg
   · rw [aO.jK _ _ ee]at hg
     rw [cM.2 g ee]
     exact H.dead g hg
 · intro g b e m hg
   rcases key g b e m hg with⟨rfl,rfl,rfl,rfl⟩ | ⟨a1,a2,a3⟩
   · exact⟨o,o',cM.1,h1,ho.ext hE,fun _=>hb⟩
   · obtain⟨o1,o2,q1,q2,q3,q4⟩:=H.obj g b e m a2
     exact⟨o1,o2,by rw [cM.2 g a1];exact q1,by rw [h2 b a3];exact q2,q3.ext hE,q4⟩
 · exact⟨h4.trans H.below.os,h5.trans H.below.tape,h6.trans H.below.output,by rw [h3];exact H.below.size,fun k hk=>by rw [h2 k (by omega)];exact H.below.block k hk⟩
theorem ant (arr:Array Value) (l':List Value) (off:Nat) (Ci:off+l'.length≤arr.size) :
 (List.take off arr.toList++l'++List.drop (off+l'.length) arr.toList).toArray.size=arr.size∧
 ∀p:Nat,(List.take off arr.toList++l'++List.drop (off+l'.length) arr.toList).toArray[p]? =if p<off then arr[p]? else if p<off+l'.length then l'[p-off]? else arr[p]? :=by
 refine⟨by simp;omega,fun p=> ?_⟩
 simp only [List.getElem?_toArray,List.getElem?_append,List.length_take,List.length_append,List.getElem?_take,List.getElem?_drop,Array.getElem?_toList,Array.length_toList]
 have hm:min off arr.size=off:=by omega
 rw [hm]
 by_cases q1:p<off
 · simp [q1,show p<off+l'.length by omega]
 · by_cases q2:p<off+l'.length
   · simp [q1,q2]
   · simp only [q1,q2,if_false]
     congr 1;omega
theorem LR.anu {l l':List Value}(hl:LR φ l l') (qW:∀v∈l,fR v=true):∀v∈l',v.oneCell'=true:=by
 intro v' lS
 have hlen:=hl.length
 obtain⟨j,hj⟩:=List.getElem?_of_mem lS
 have FM:j<l.length:=by rw [hlen];exact(List.getElem?_eq_some_iff.1 hj).1
 obtain⟨u,hu,hr⟩:=LR.get hl j _ (List.getElem?_eq_getElem FM)
 rw [hj]at hu;cases hu
 exact hr.fR (qW _ (List.getElem_mem FM))
theorem acR {c:Call}{t u e' eu:TypeId}{i:TypeInfo}{z:Value}{p p' q':Value}{n:Nat}{xs oB:List Value}(cD:∀{v':Value}{w':World},(Builtin.append_ c.argTypes o.type #[p',q']).run P w= .ok v' w'→(execOp ρ o).run P w= .ok (.value v') w')
 (h0:c.argTypes[0]? =some t) (h1:c.argTypes[1]? =some u) (ht:P.underlying t=some (.slice e')) (hu:P.underlying u=some (.slice eu)∨P.underlying u=some .string)
 (hi:P.info? e'=some i) (hz:i.zero=some z) (yV:i.bytes≤65536) (nK:z.cells.size=i.size) (fQ:0<i.size) (H:HR P w0 φ h w) (hr:VR φ p p') (pB:xs.length=n*i.size) (sY:LR φ xs oB)
 (hlen:(Builtin.lenOf q').run P w= .ok n w) (sZ:∀w',w'.heap=w.heap→(Builtin.firstCells i.size n q').run P w'= .ok oB.toArray w')
 (e2:lX p (B6 h e' i.size n xs k) (B7 h e' i.size n xs k)=true):PR P w0 φ h ((execOp ρ o).run P w) fun v h'=>k v h'=true:=by
 have awm:=sY.length
 have hbound:∀m,m≤1048576→m*i.bytes≤140737488355328:=fun m hm=>Nat.le_trans (Nat.mul_le_mul hm yV) (by decide)
 rcases qU e2 with⟨l0,c0,ar,e3⟩ | ⟨a,len,cap,ar,e3⟩<;>subst ar
 · obtain⟨rfl,rfl,hx⟩:=hr.sw
   unfold B6 at e3
   by_cases hn:n=0
   · subst hn
     rw [ma rfl,cond_true]at e3
     have pc:oB=[]:=List.eq_nil_of_length_eq_zero (by omega)
     subst pc
     exact .same H (cD (by rw [hx];exact Mv ht hu hi h0 h1 (a:=none) hlen (sZ w rfl) rfl (by omega))) .oe e3
   · rw [gg hn,cond_false]at e3
     obtain⟨BQ,e4⟩:=cI e3
     have BQ:=Nat.le_of_ble_eq_true BQ
     obtain⟨qW,cc,bj,g1,g2,g3⟩:=uo e4
     rw [cz]at g3
     obtain⟨nc,q1,q2⟩:=Mw (P:=P) (ty:=o.type) ht hu hi hz h0 h1 (a:=none) (sLen:=0) (sCap:=0) (olds:=[]) hlen sZ (fun w' _=>by simp [Builtin.firstCells]) (by omega) (by rw [Nat.zero_add];exact hbound n BQ) (by omega)
     rw [←hx]at q2
     simp only [Nat.zero_add,List.nil_append]at q1 q2
     exact PR.Mx (o:=0) H fQ nK sY pB q1 (fun j v hj=>by rw [Nat.zero_add];exact g1 j v hj) (by rw [Nat.zero_add];exact g2) g3 (cD q2)
 · obtain⟨a',dJ,hx,hs,jE⟩:=hr.pW
   have Ma:len≤dJ:=by
    rcases jE with⟨_,h2,h3,_⟩ | ⟨_,_,_,h3,_⟩<;>omega
   have dH:0<dJ→AtR φ a a':=by
    intro hp
    rcases jE with⟨_,h2,h3,h4⟩ | ⟨_,_,_,h3,h4⟩
    · exact h4 (by omega)
    · exact(h4 hp).1
   unfold B7 at e3
   by_cases hn:n=0
   · subst hn
     rw [ma rfl,cond_true]at e3
     have pc:oB=[]:=List.eq_nil_of_length_eq_zero (by omega)
     subst pc
     refine .same H (cD (by rw [hx];exact Mv ht hu hi h0 h1 (a:=some a') hlen (sZ w rfl) rfl (by omega))) ?_ e3
     exact .sl _ _ _ _ _ hs jE
   · rw [gg hn,cond_false,cz]at e3
     obtain⟨Gh,e4⟩:=cI e3
     have Gh:len+n≤1048576:=Nat.le_of_ble_eq_true Gh
     have hold:∀{lo dK:Nat}{ty:TypeId}{oh:Bool}{cc:NT Value},h.ob.get a.block=some (.cells lo dK ty oh cc)→lo≤a.off→a.off+len*i.size≤dK→
      ∃l l',l.length=len*i.size∧(∀j v,l[j]? =some v→cc.get (a.off+j)=some v)∧LR φ l l'∧∀w',w'.heap=w.heap→(Builtin.firstCells i.size len (.slice (some a') len dJ)).run P w'= .ok l'.toArray w':=by
      intro lo dK ty oh cc g1 g2 g3
      by_cases lD:len=0
      · subst lD
        exact⟨[],[],by simp,fun j v hj=>by simp at hj,.nil,fun w' _=>by simp [Builtin.firstCells,loadCells,loadCellsFrom]⟩
      · exact H.anr (P:=P) hs (dH (by omega)) g1 _ g2 g3
     cases hb:Nat.ble bg cap with
     | true =>
      rw [hb,cond_true]at e4
      have hb:=Nat.le_of_ble_eq_true hb
      unfold KX at e4
      obtain⟨My,e5⟩:=cI e4
      have My:cap=bg+i.size:=Nat.eq_of_beq_eq_true My
      obtain⟨lo,dK,ty,oh,cc,g1,e6⟩:=uQ e5
      obtain⟨g2,e7⟩:=cI e6
      simp only [Bool.and_eq_true]at g2
      obtain⟨⟨⟨⟨g2,g3⟩,g4⟩,g5⟩,g6⟩:=g2
      subst g2
      obtain rfl:=Nat.eq_of_beq_eq_true g3
      have g4:=Nat.le_of_ble_eq_true g4
      have g5:a.off+len*i.size≤dK:=Nat.le_of_ble_eq_true g5
      have qW:=LB _ g6
      obtain⟨ob1,k1,e8⟩:=o8 e7
      rw [cz]at e8
      obtain⟨c2,e9,k2,k3⟩:=Ly _ e8
      rw [cz]at e9
      obtain⟨Sj,k4,Mz⟩:=wi e9
      obtain⟨ol,Vn,m1,m2,m3,m4⟩:=hold g1 g4 g5
      have H1:=H.kill (P:=P) (w:=w) (h':=⟨h.nx,ob1⟩) hs k1 rfl
      have E1:Ext h.nx φ (φ.put a.block .dead):=aO.KO φ _ _ hs
      have anv:∀j v,(ol++xs)[j]? =some v→c2.get (a.off+j)=some v:=by
       intro j v hj
       rw [List.getElem?_append]at hj
       split at hj
       · rename_i bJ
         rw [k3 _ (.inl (by show a.off+j<a.off+len*i.size;omega))]
         exact m2 j v hj
       · have:=k2 _ v hj
         rw [←this];congr 1
         show a.off+j=a.off+len*i.size+(j-ol.length)
         omega
      have Gi:(ol++xs).length=(len+n)*i.size:=by rw [List.length_append,m1,pB,Nat.add_mul]
      have cM:(⟨h.nx,ob1⟩:AH).ob.ko h.nx (some (.cells a.off (a.off+(ol++xs).length) ty true c2)) Sj:=by
       rw [Gi];exact k4
      have Sg:LR (φ.put a.block .dead) (ol++xs) (Vn++oB):=LR.append (LR.ext E1 sY) (LR.ext E1 m3)
      by_cases pC:len+n≤dJ
      · -- in place
        obtain⟨sz,q1,q2,q3,q4⟩:∃sz,cap=bg+sz∧0<sz∧len≤dJ∧(0<dJ→AtR φ a a'∧∀b d n,φ a.block=some (.live b d n)→a'.off+dJ*sz≤n):=by
         rcases jE with⟨h2,_⟩ | h2
         · omega
         · exact h2
        have anw:sz=i.size:=by omega
        subst anw
        obtain⟨FF,Vo⟩:=q4 (by omega)
        obtain⟨B,d,arr,fr,v1,v2,v3,v4,v5,v6,v7,v8,v9⟩:=H.at hs FF g1
        obtain rfl:=v9 rfl
        have Vo:=Vo _ _ _ v1
        have hmul:(len+n)*i.size≤dJ*i.size:=Nat.mul_le_mul pC (Nat.le_refl _)
        have awn:(len+n)*i.size=len*i.size+n*i.size:=Nat.add_mul _ _ _
        have Ci:a'.off+len*i.size+oB.length≤arr.size:=by omega
        have kp:=run_storeCells_at P B (a'.off+len*i.size) ty oB 0 arr w v5 (by simpa using Ci) (LR.anu sY qW)
        simp only [Nat.add_zero]at kp
        obtain⟨x1,x2⟩:=ant arr oB (a'.off+len*i.size) Ci
        generalize hX:(List.take (a'.off+len*i.size) arr.toList++oB++List.drop (a'.off+len*i.size+oB.length) arr.toList).toArray=X at kp x1 x2
        have Kv:a'.add (len*i.size)=⟨B,a'.off+len*i.size,none⟩:=by rw [nR a' v4,v2]
        have Gj:=Mv (P:=P) (ty:=o.type) ht hu hi h0 h1 (a:=some a') (sLen:=len) (sCap:=dJ) hlen (sZ w rfl) (by simp only [];rw [Kv];exact kp) pC
        rw [←hx]at Gj
        have hor:OR P (φ.put a.block .dead) d arr.size (.cells a.off (a.off+(ol++xs).length) ty true c2) (.cells X ty (0,0)):=by
         refine .cells _ _ _ _ _ _ _ _ _ (fun _=>rfl) (by omega) x1.symm fun p p1 p2=> ?_
         rw [Gi]at p2
         rw [x2]
         by_cases hp:p<a.off+len*i.size
         · obtain⟨v,v',y1,y2,y3⟩:=v7 p (by omega) (by omega)
           exact⟨v,v',by rw [k3 p (.inl hp)];exact y1,by rw [if_pos (by omega)];exact y2,VR.ext E1 y3⟩
         · obtain⟨j,rfl⟩:∃j,p=a.off+len*i.size+j:=⟨p-(a.off+len*i.size),by omega⟩
           have hj:j<xs.length:=by omega
           obtain⟨y,y1,y2⟩:=LR.get sY j _ (List.getElem?_eq_getElem hj)
           refine⟨xs[j],y,k2 j _ (List.getElem?_eq_getElem hj), ?_,VR.ext E1 y2⟩
           rw [if_neg (by omega),if_pos (by omega),show a.off+len*i.size+j-d-(a'.off+len*i.size)=j by omega]
           exact y1
        obtain⟨r1,r2⟩:=H1.ans (P:=P) (f:=h.nx) (B:=B) (h':=⟨h.nx+1,Sj⟩) (w':=w.setRow B X) (by rw [aO.jK _ _ (fun e=>hs (by rw [←e];exact H.fresh _ (Nat.le_refl _)))];exact H.fresh _ (Nat.le_refl _))
         (fun g b' d' n' hg hbB=>by
          by_cases Vp:g=a.block
          · subst Vp;rw [aO.jG]at hg;cases hg
          · rw [aO.jK _ _ Vp]at hg
            subst hbB
            exact Vp (H.inj g a.block b' d' d n' arr.size (v8 rfl) hg v1)) cM (by simp) (by simp) h.nx (Nat.le_refl _) hor (v8 rfl) (setRow_heap w B arr X ty (0,0) v5) (fun k hk=>by
          unfold World.setRow
          simp only [Array.getElem?_modify]
          rw [if_neg (by omega)]) (by simp) rfl rfl rfl
        refine⟨_,_,_,_,_,.inl (cD Gj),Mz,E1.trans r2 (Nat.le_refl _),by simp,.sl _ _ _ _ _ (by simp [aO.put]) (.inr ⟨i.size,My,fQ,pC,fun _=>⟨fun b d' m hl=> ?_,fun b d' m hl=> ?_⟩⟩),r1⟩
        · simp only [aO.jG]at hl
          cases hl
          exact⟨v2,v3,v4⟩
        · simp only [aO.jG]at hl
          cases hl
          exact Vo
      · -- anx
        obtain⟨nc,q1,q2⟩:=Mw (P:=P) (ty:=o.type) ht hu hi hz h0 h1 (a:=some a') (sLen:=len) (sCap:=dJ) hlen sZ m4 (by omega) (hbound _ Gh) (by omega)
        rw [←hx]at q2
        have:=PR.Mx (P:=P) (w0:=w0) (o:=a.off) H1 fQ nK Sg Gi q1 anv cM (by rw [My]at Mz;exact Mz) (cD q2)
        obtain⟨v',w',v,h',φ',r1,r2,r3,r4,r5,r6⟩:=this
        exact⟨v',w',v,h',φ',r1,r2,E1.trans r3 (Nat.le_refl _),r4,r5,r6⟩
     | false =>
      rw [hb,cond_false]at e4
      have lC:cap<bg:=by rw [wg]at hb;simpa using hb
      obtain⟨Fb,Vq⟩:dJ=cap∧(0<cap→AtR φ a a'):=by
       rcases jE with⟨_,h2,_,h3⟩ | ⟨sz,h2,_⟩
       · exact⟨h2,h3⟩
       · omega
      cases kr:Nat.ble (Nat.add len n) cap with
      | true =>
       rw [kr,cond_true,cz]at e4
       have pC:len+n≤cap:=Nat.le_of_ble_eq_true kr
       obtain⟨lo,dK,ty,cc,cc',bj,g1,g2,g3,g4,g5,g6,g7,g8⟩:=RP e4
       have FF:=(Vq (by omega)).add (len*i.size)
       obtain⟨w',q1,q2,_⟩:=H.write (P:=P) (a:=⟨a.block,a.off+len*i.size,none⟩) hs FF g1 g2 g3 sY g4 g5 g6 g7
       have Gj:=Mv (P:=P) (ty:=o.type) ht hu hi h0 h1 (a:=some a') (sLen:=len) (sCap:=dJ) hlen (sZ w rfl) q1 (by omega)
       rw [←hx]at Gj
       exact⟨_,_,_,_,_,.inl (cD Gj),g8,Ext.refl _ _,Nat.le_refl _,.sl _ _ _ _ _ hs (.inl ⟨lC,Fb,pC,Vq⟩),q2⟩
      | false =>
       rw [kr,cond_false]at e4
       have awo:¬(len+n≤cap):=by rw [wg]at kr;simpa using kr
       by_cases lD:len=0
       · subst lD
         rw [ma rfl,cond_true]at e4
         obtain⟨qW,cc,bj,g1,g2,g3⟩:=uo e4
         rw [cz]at g3
         obtain⟨nc,q1,q2⟩:=Mw (P:=P) (ty:=o.type) ht hu hi hz h0 h1 (a:=some a') (sLen:=0) (sCap:=dJ) (olds:=[]) hlen sZ (fun w' _=>by simp [Builtin.firstCells,loadCells,loadCellsFrom]) (by omega) (hbound _ Gh) (by omega)
         rw [←hx]at q2
         simp only [Nat.zero_add,List.nil_append]at q1 q2
         refine PR.Mx (o:=0) H fQ nK sY pB q1 (fun j v hj=>by rw [Nat.zero_add];exact g1 j v hj) (by rw [Nat.zero_add];exact g2) ?_ (cD q2)
         rw [show Nat.add 0 n=n from Nat.zero_add n]at g3
         exact g3
       · rw [gg lD,cond_false]at e4
         obtain⟨lo,dK,ty,oh,cc,ol,g1,g2,g3,g4,g5,g6⟩:=wh e4
         have e5:=uk _ _ g6
         obtain⟨qW,c2,bj,k1,k2,k3⟩:=uo e5
         rw [cz]at k3
         obtain⟨Vn,m3,m4⟩:=H.cells (P:=P) hs (Vq (by omega)) g1 g2 (by rw [g4];exact g3) g5
         rw [g4]at m4
         obtain⟨nc,q1,q2⟩:=Mw (P:=P) (ty:=o.type) ht hu hi hz h0 h1 (a:=some a') (sLen:=len) (sCap:=dJ) (olds:=Vn) hlen sZ (fun w' hw=>by simp only [Builtin.firstCells];exact m4 w' hw) (by omega) (hbound _ Gh) (by omega)
         rw [←hx]at q2
         have Gi:(ol++xs).length=(len+n)*i.size:=by rw [List.length_append,g4,pB,Nat.add_mul];rfl
         exact PR.Mx (o:=0) H fQ nK (LR.append sY m3) Gi q1 (fun j v hj=>by rw [Nat.zero_add];exact k1 j v hj) (by rw [Nat.zero_add];exact k2) k3 (cD q2)
theorem aku {c:Call}{s x:Operand}{t u e' eu:TypeId}{i:TypeInfo}{z:Value}(ho:o.op= .call c) (hc:c.callee= .builtin .append) (ha:c.args= #[s,x]) (h0:c.argTypes[0]? =some t) (h1:c.argTypes[1]? =some u) (ht:P.underlying t=some (.slice e')) (hu:P.underlying u=some (.slice eu))
 (hi:P.info? e'=some i) (hz:i.zero=some z) (yV:i.bytes≤65536) (nK:z.cells.size=i.size) (fQ:0<i.size) (H:HR P w0 φ h w) (hv:LR φ vs ([s,x].map ρ)) (e:abt e' i.size z.cells.toList vs h k=true):PR P w0 φ h ((execOp ρ o).run P w) fun v h'=>k v h'=true:=by
 obtain⟨p,q,ar,e1⟩:=ji e;clear e;subst ar;have e:=e1;clear e1
 obtain⟨p',q',hp,hr,hq⟩:=hv.two
 simp at hp;obtain⟨e1,e2⟩:=hp;subst e1 e2
 have cD:∀{v':Value}{w':World},(Builtin.append_ c.argTypes o.type #[ρ s,ρ x]).run P w= .ok v' w'→(execOp ρ o).run P w= .ok (.value v') w':=by
  intro v' w' hh
  rw [me ho hc]
  simp [builtin,ha,hh]
 obtain⟨n,xs,oB,e1,pB,sY,hlen,sZ⟩:=ano (P:=P) H hq e
 obtain⟨_,e2⟩:=cI e1
 exact acR (p:=p) (p':=ρ s) (q':=ρ x) cD h0 h1 ht (.inl hu) hi hz yV nK fQ H hr pB sY hlen sZ e2
end
end Go.Ve
namespace Go.Ve
open Go.RowKit
open Go.MapKept (run_findKey sameBits_self IsKey)
section
variable {P:Program}{w0 w:World}{φ:aO}{h:AH}{ρ:Operand→Value}{o:Oper}{vs:List Value}{k:KV}
theorem ajq {c:Call}{x y:Operand}(ho:o.op= .call c) (hc:c.callee= .builtin .max) (ha:c.args= #[x,y]) (H:HR P w0 φ h w) (hv:LR φ vs ([x,y].map ρ)) (e:RL vs h k=true):PR P w0 φ h ((execOp ρ o).run P w) fun v h'=>k v h'=true:=by
 obtain⟨p,q,ar,e1⟩:=ji e;clear e;subst ar;have e:=e1;clear e1
 obtain⟨p',q',hp,hr,hq⟩:=hv.two
 simp at hp;obtain⟨e1,e2⟩:=hp;subst e1 e2
 obtain⟨kx,a,ar,e1⟩:=og e;clear e;subst ar;have e:=e1;clear e1
 obtain⟨ky,b,ar,e1⟩:=og e;clear e;subst ar;have e:=e1;clear e1
 obtain⟨hk,e1⟩:=cI e;clear e
 obtain rfl:=o5 hk
 rw [BH]at e1
 have hx:=hr.iZ
 have hy:=hq.iZ
 have cD:(execOp ρ o).run P w= .ok (.value (.int kx (if b > a then b else a))) w:=by
  rw [me ho hc]
  simp [builtin,ha,hx,hy,run_max_int2]
 refine .same H cD (.int _ _) ?_
 by_cases o6:a<b
 · rw [if_pos o6];simpa [o6]using e1
 · rw [if_neg o6];simpa [o6]using e1
theorem ajr {c:Call}{x y:Operand}(ho:o.op= .call c) (hc:c.callee= .builtin .min) (ha:c.args= #[x,y]) (H:HR P w0 φ h w) (hv:LR φ vs ([x,y].map ρ)) (e:RM vs h k=true):PR P w0 φ h ((execOp ρ o).run P w) fun v h'=>k v h'=true:=by
 obtain⟨p,q,ar,e1⟩:=ji e;clear e;subst ar;have e:=e1;clear e1
 obtain⟨p',q',hp,hr,hq⟩:=hv.two
 simp at hp;obtain⟨e1,e2⟩:=hp;subst e1 e2
 obtain⟨kx,a,ar,e1⟩:=og e;clear e;subst ar;have e:=e1;clear e1
 obtain⟨ky,b,ar,e1⟩:=og e;clear e;subst ar;have e:=e1;clear e1
 obtain⟨hk,e1⟩:=cI e;clear e
 obtain rfl:=o5 hk
 rw [BH]at e1
 have hx:=hr.iZ
 have hy:=hq.iZ
 have cD:(execOp ρ o).run P w= .ok (.value (.int kx (if b<a then b else a))) w:=by
  rw [me ho hc]
  simp [builtin,ha,hx,hy,run_min_int2]
 refine .same H cD (.int _ _) ?_
 by_cases o6:b<a
 · rw [if_pos o6];simpa [o6]using e1
 · rw [if_neg o6];simpa [o6]using e1
theorem ajs {c:Call}{d s:Operand}{t e':TypeId}{i:TypeInfo}(ho:o.op= .call c) (hc:c.callee= .builtin .copy) (ha:c.args= #[d,s]) (h0:c.argTypes[0]? =some t) (ht:P.underlying t=some (.slice e'))
 (hi:P.info? e'=some i) (H:HR P w0 φ h w) (hv:LR φ vs ([d,s].map ρ)) (e:aab i.size vs h k=true):PR P w0 φ h ((execOp ρ o).run P w) fun v h'=>k v h'=true:=by
 obtain⟨p,q,ar,e1⟩:=ji e;clear e;subst ar;have e:=e1;clear e1
 obtain⟨p',q',hp,hr,hq⟩:=hv.two
 simp at hp;obtain⟨e1,e2⟩:=hp;subst e1 e2
 have cD:∀{v':Value}{w':World},(Builtin.copy_ c.argTypes o.type #[ρ d,ρ s]).run P w= .ok v' w'→(execOp ρ o).run P w= .ok (.value v') w':=by
  intro v' w' hh
  rw [me ho hc]
  simp [builtin,ha,hh]
 have dH:∀{a a':Addr}{len cap dJ:Nat},ui φ a a' len cap dJ→0<len→AtR φ a a':=by
  intro a a' len cap dJ jE hp
  rcases jE with⟨_,h2,_,h4⟩ | ⟨_,_,_,h3,h4⟩
  · exact h4 (by omega)
  · exact(h4 (by omega)).1
 rcases qU e with⟨l0,c0,ar,e3⟩ | ⟨a,len,cap,ar,e3⟩<;>clear e<;>subst ar
 · obtain⟨rfl,rfl,hx⟩:=hr.sw
   rcases qU e3 with⟨l1,c1,ar,e4⟩ | ⟨b,pV,ajt,ar,e4⟩<;>subst ar
   · obtain⟨rfl,rfl,hy⟩:=hq.sw
     exact .same H (cD (by rw [hx,hy];simp [Builtin.copy_,h0,run_underlying ht,Builtin.lenOf,kD hi,Builtin.firstCells,goInt])) (.int _ _) e4
   · obtain⟨b',aju,hy,_,_⟩:=hq.pW
     exact .same H (cD (by rw [hx,hy];simp [Builtin.copy_,h0,run_underlying ht,Builtin.lenOf,kD hi,Builtin.firstCells,goInt,loadCells,loadCellsFrom])) (.int _ _) e4
 · obtain⟨a',dJ,hx,hs,jE⟩:=hr.pW
   rcases qU e3 with⟨l1,c1,ar,e4⟩ | ⟨b,pV,ajt,ar,e4⟩<;>subst ar
   · obtain⟨rfl,rfl,hy⟩:=hq.sw
     exact .same H (cD (by rw [hx,hy];simp [Builtin.copy_,h0,run_underlying ht,Builtin.lenOf,kD hi,Builtin.firstCells,goInt,storeCells])) (.int _ _) e4
   · obtain⟨b',aju,hy,qV,ajv⟩:=hq.pW
     rw [cz]at e4
     have ajw:(bif Nat.ble pV len then pV else len)=Nat.min pV len:=by
      rw [wg]
      by_cases hle:pV≤len
      · simp [hle,Nat.min_eq_left hle,Nat.min_def]
      · simp [hle,Nat.min_def]
     rw [ajw]at e4
     by_cases hn:Nat.min pV len=0
     · rw [hn,ma rfl,cond_true]at e4
       exact .same H (cD (by rw [hx,hy];simp [Builtin.copy_,h0,run_underlying ht,Builtin.lenOf,kD hi,Builtin.firstCells,goInt,hn,loadCells,loadCellsFrom,storeCells])) (.int _ _) e4
     · rw [gg hn,cond_false]at e4
       have RN:0<pV:=by have:=Nat.min_le_left pV len;simp only [Nat.min_def]at hn this;split at hn<;>omega
       have RO:0<len:=by simp only [Nat.min_def]at hn;split at hn<;>omega
       obtain⟨lo,dK,ty,oh,cc,l,g1,g2,g3,g4,g5,g6⟩:=wh e4
       obtain⟨l',q1,q2⟩:=H.cells (P:=P) qV (dH ajv RN) g1 g2 (by rw [g4];exact g3) g5
       obtain⟨lo2,gJ,ty2,c2,c2',bj,k1,k2,k3,k4,k5,k6,k7,k8⟩:=RP g6
       obtain⟨w',r1,r2,_⟩:=H.write (P:=P) hs (dH jE RO) k1 k2 k3 q1 k4 k5 k6 k7
       have q2':=q2 w rfl
       rw [g4]at q2'
       have ajx:(loadCells b' (Nat.min pV len*i.size)).run P w= .ok l'.toArray w:=q2'
       refine⟨_,w',_,_,φ,.inl (cD ?_),k8,Ext.refl _ _,Nat.le_refl _,.int _ _,r2⟩
       rw [hx,hy]
       simp only [Builtin.copy_,h0,Builtin.lenOf]
       simp [run_underlying ht,kD hi,Builtin.firstCells,goInt,ajx,r1]
theorem LR.Ko {φ:aO}{l l':List Value}(h:LR φ l l'):∀n,LR φ (kT n l) (kT n l')
 | 0=>.nil
 | n+1=>LR.append (LR.Ko h n) h
theorem aac:∀(n:Nat){zero:List Value}{k:List Value→Bool},BI n zero k=true→k (kT n zero)=true
 | 0,zero,k,h=>h
 | n+1,zero,k,h=>uk _ _ (aac n (show BI n zero (fun l=>jF zero l k)=true from h))
theorem aad (z:List Value):∀n,(kT n z).length=n*z.length
 | 0=>by simp [kT]
 | n+1=>by simp [kT,aad z n,Nat.add_mul];omega
theorem aae (z:List Value) (hz:0<z.length):∀(n j:Nat),j<n*z.length→(kT n z)[j]? =z[j % z.length]?
 | 0,j,hj=>by omega
 | n+1,j,hj=>by
  simp only [kT,List.getElem?_append]
  by_cases Es:j<z.length
  · rw [if_pos Es,Nat.mod_eq_of_lt Es]
  · rw [if_neg Es,aae z hz n _ (by rw [Nat.add_mul]at hj;omega),Nat.mod_eq_sub_mod (by omega:j≥z.length)]
theorem RQ (z:Array Value) (hz:0<z.size) (n:Nat):(madeCells z (n*z.size)).toList=kT n z.toList:=by
 apply List.ext_getElem?
 intro j
 by_cases hj:j<n*z.size
 · rw [aae z.toList (by simpa using hz) n j (by simpa using hj)]
   have hm:j % z.size<z.size:=Nat.mod_lt _ hz
   simp [madeCells,hj,hm]
 · rw [List.getElem?_eq_none (by simp [madeCells];omega),List.getElem?_eq_none (by rw [aad];simpa using by omega)]
theorem ajy {t e':TypeId}{x y:Operand}{i:TypeInfo}{z:Value}(ho:o.op= .makeSlice t x y) (ht:P.underlying t=some (.slice e')) (hi:P.info? e'=some i) (hz:i.zero=some z) (gB:BJ z=true) (yV:i.bytes≤65536) (nK:z.cells.size=i.size) (fQ:0<i.size)
 (H:HR P w0 φ h w) (hv:LR φ vs ([x,y].map ρ)) (e:aaf e' i.size z.cells.toList vs h k=true):PR P w0 φ h ((execOp ρ o).run P w) fun v h'=>k v h'=true:=by
 obtain⟨p,q,ar,e1⟩:=ji e;clear e;subst ar;have e:=e1;clear e1
 obtain⟨p',q',hp,hr,hq⟩:=hv.two
 simp at hp;obtain⟨e1,e2⟩:=hp;subst e1 e2
 obtain⟨kl,l,ar,e1⟩:=um e;clear e;subst ar;have e:=e1;clear e1
 obtain⟨kc,c,ar,e1⟩:=um e;clear e;subst ar;have e:=e1;clear e1
 obtain⟨g,e1⟩:=cI e
 simp only [Bool.and_eq_true]at g
 obtain⟨⟨g1,g2⟩,g3⟩:=g
 have g1:=Nat.le_of_ble_eq_true g1
 have g2:=Nat.le_of_ble_eq_true g2
 have e2:=aac _ e1
 obtain⟨qW,cc,bj,k1,k2,k3⟩:=uo e2
 have hb:(i.bytes:Int)*(Int.ofNat c)≤281474976710656:=by
  have:i.bytes*c≤65536*65536:=Nat.mul_le_mul yV g2
  simp only [Int.ofNat_eq_natCast]
  rw [←Int.natCast_mul];omega
 have cD:=run_make (P:=P) w t e' i z ht hi hz kl kc (Int.ofNat l) (Int.ofNat c) (by simp) (by simp only [Int.ofNat_eq_natCast];omega) hb (by simp only [Int.ofNat_eq_natCast];omega)
 have hm:madeCells z.cells (c*i.size)=(kT c z.cells.toList).toArray:=by
  apply Array.ext'
  rw [←nK,RQ z.cells (by omega) c]
 have hc:(Int.ofNat c).toNat=c:=rfl
 have hl:(Int.ofNat l).toNat=l:=rfl
 rw [hc,hl,hm]at cD
 obtain⟨r1,r2⟩:=PR.newRow H (LR.Ko (VR.cells (qX (φ:=φ) gB)) c) k1 k2
 refine⟨.slice (some ⟨w.heap.size,0,none⟩) l c,_,_,_,_,.inl (by simp only [execOp,ho,hr.iZ,hq.iZ];simp only [Sem.run_bind,cD,Result.andThen_ok,Sem.run_pure]),k3,r2,by simp,.sl _ _ _ _ _ (by simp [aO.put]) (.inl ⟨by unfold bg;omega,rfl,g1,fun _ b d n hl=> ?_⟩),r1⟩
 simp only [aO.jG]at hl
 cases hl
 exact⟨rfl,rfl,rfl⟩
theorem BK {d:TypeDesc}{kc:Nat}{a b:Value}{r:Bool}(hk:kU d=some kc) (he:nL kc a b=some r):Instr.sameNow d a b=some r:=by
 unfold nL at he
 split at he<;>first | (cases he;done) | skip
 · rename_i k1 x k2 y
   cases eW:gK k1 k2 with
   | false=>rw [eW]at he;cases he
   | true =>
    rw [eW]at he
    simp only [cond_true,Option.some.injEq]at he
    obtain rfl:=o5 eW
    unfold kU at hk
    split at hk<;>first | (cases hk;done) | skip
    subst he
    simp [Instr.sameNow,ur]
 · rename_i x y
   simp only [Option.some.injEq]at he
   unfold kU at hk
   split at hk<;>first | (cases hk;done) | skip
   subst he
   cases x<;>cases y<;>rfl
 · rename_i x y
   simp only [Option.some.injEq]at he
   unfold kU at hk
   split at hk<;>first | (cases hk;done) | skip
   subst he
   simp only [Instr.sameNow,eqStr,beq_toListBytes]
theorem aag {kc:Nat}{d:TypeDesc}(hk:kU d=some kc):∀{es:List (Value×Value×Nat)}{dz:List MapEntry}{x x':Value}{kk:Option Value→Bool}(i:Nat),ER φ es dz→VR φ x x'→yW kc es x kk=true→
 (kk none=true∧Instr.findNow d x' dz i=some none)∨∃v v' j,kk (some v)=true∧VR φ v v'∧Instr.findNow d x' dz i=some (some (j,v'))
 | _,_,x,x',kk,i,.nil,hx,h=>.inl ⟨h,rfl⟩
 | _,_,x,x',kk,i,.cons a v b e l l' ha hv hb hl,hx,h=>by
  unfold yW at h
  split at h
  · rename_i he
    obtain⟨rfl,h2⟩:=Et hx ha he
    exact .inr ⟨v,e.val,i,h,hv,by simp [Instr.findNow,h2,BK hk he]⟩
  · rename_i he
    obtain⟨h1,h2⟩:=Et hx ha he
    rcases aag hk (i+1) hl hx h with⟨q1,q2⟩ | ⟨v1,v2,j,q1,q2,q3⟩
    · exact .inl ⟨q1,by subst h1;simp [Instr.findNow,h2,BK hk he,q2]⟩
    · exact .inr ⟨v1,v2,j,q1,q2,by subst h1;simp [Instr.findNow,h2,BK hk he,q3]⟩
  · cases h
theorem aah {kc:Nat}{d:TypeDesc}{t:TypeId}{x:Value}{b:Bool}(hu:P.underlying t=some d) (hk:kU d=some kc):(Instr.checkKey b 10000 t x).run P w= .ok () w:=by
 rw [show(10000:Nat)=9999+1 from rfl]
 unfold Instr.checkKey
 simp only [Sem.run_bind,run_underlying hu,Result.andThen_ok]
 unfold kU at hk
 split at hk<;>first | (cases hk;done) | skip
 all_goals (cases x<;>rfl)
theorem ajz {t kt e':TypeId}{m x:Operand}{kc:Nat}{z:Value}{ok:Bool}(ho:o.op= .lookup t m x ok) (ht:P.underlying t=some (.map kt e')) (hk:(P.underlying kt).bind kU=some kc) (hz:zeroOf P e'=some z)
 (H:HR P w0 φ h w) (hv:LR φ vs ([m,x].map ρ)) (e:RR kc z ok vs h k=true):PR P w0 φ h ((execOp ρ o).run P w) fun v h'=>k v h'=true:=by
 obtain⟨i,hi,hz,gB⟩:=pX hz
 obtain⟨d,hd,Eu⟩:∃d,P.underlying kt=some d∧kU d=some kc:=by
  cases hu:P.underlying kt with
  | none=>simp [hu]at hk
  | some d=>exact⟨d,rfl,by simpa [hu]using hk⟩
 obtain⟨p,q,ar,e1⟩:=ji e;clear e;subst ar;have e:=e1;clear e1
 obtain⟨p',q',hp,hr,hq⟩:=hv.two
 simp at hp;obtain⟨e1,e2⟩:=hp;subst e1 e2
 obtain⟨_,e1⟩:=cI e
 have fin:∀{ov:Option Value}{es:Array MapEntry},Kp z ok h k ov=true→
  ((ρ m= .map none∧es= #[])∨∃r cl,ρ m= .map (some r)∧w.heap[r]? =some (.map es cl))→
  ((ov=none∧Instr.findNow d (ρ x) es.toList 0=some none)∨∃v v' j,ov=some v∧VR φ v v'∧Instr.findNow d (ρ x) es.toList 0=some (some (j,v')))→PR P w0 φ h ((execOp ρ o).run P w) fun v h'=>k v h'=true:=by
  intro ov es q1 q2 q3
  have uu:∀b,(Instr.checkKey b 10000 kt (ρ x)).run P w= .ok () w:=fun b=>aah hd Eu
  rcases q3 with⟨rfl,q3⟩ | ⟨v,v',j,rfl,q4,q3⟩
  · have hf:=run_findKey (P:=P) (w:=w) hd q3
    have cD:(execOp ρ o).run P w= .ok (.value (if ok=true then .tuple #[z,.bool false]else z)) w:=by
     rcases q2 with⟨q2,rfl⟩ | ⟨r,cl,q2,q5⟩
     · simp only [execOp,ho,Instr.lookup,Sem.run_bind,run_underlying ht,Result.andThen_ok,q2]
       simp [uu,hf,sx hi hz]
     · simp only [execOp,ho,Instr.lookup,Sem.run_bind,run_underlying ht,Result.andThen_ok,q2]
       simp [getObj,Sem.run,q5,uu,hf,sx hi hz]
    cases ok with
    | true=>exact .same H cD (.iy _ _ (.cons _ _ _ _ (qX gB) (.cons _ _ _ _ (.bool _) .nil))) q1
    | false=>exact .same H cD (qX gB) q1
  · have hf:=run_findKey (P:=P) (w:=w) hd q3
    have cD:(execOp ρ o).run P w= .ok (.value (if ok=true then .tuple #[v',.bool true]else v')) w:=by
     rcases q2 with⟨q2,rfl⟩ | ⟨r,cl,q2,q5⟩
     · simp only [execOp,ho,Instr.lookup,Sem.run_bind,run_underlying ht,Result.andThen_ok,q2]
       simp [uu,hf]
     · simp only [execOp,ho,Instr.lookup,Sem.run_bind,run_underlying ht,Result.andThen_ok,q2]
       simp [getObj,Sem.run,q5,uu,hf]
    cases ok with
    | true=>exact .same H cD (.iy _ _ (.cons _ _ _ _ q4 (.cons _ _ _ _ (.bool _) .nil))) q1
    | false=>exact .same H cD q4 q1
 rcases Kq e1 with⟨ar,e2⟩ | ⟨r,ar,e2⟩<;>subst ar
 · exact fin (es:= #[]) e2 (.inl ⟨hr.RT,rfl⟩) (.inl ⟨rfl,rfl⟩)
 · obtain⟨r',hx,hs,o7⟩:=hr.Kr
   obtain⟨es,cl,g1,g2⟩:=yX e2
   obtain⟨dd,n,dz,_,m2,m3,_⟩:=H.RU hs o7 g1
   rcases aag Eu 0 m3 hq g2 with⟨q1,q2⟩ | ⟨v1,v2,j,q1,q2,q3⟩
   · exact fin q1 (.inr ⟨r',cl,hx,m2⟩) (.inl ⟨rfl,q2⟩)
   · exact fin q1 (.inr ⟨r',cl,hx,m2⟩) (.inr ⟨v1,v2,j,rfl,q2,q3⟩)
end
end Go.Ve
namespace Go.Ve
open Go.RowKit
open Go.MapKept (run_findKey bytes_beq)
section
variable {P:Program}{w0 w:World}{φ:aO}{h:AH}{ρ:Operand→Value}{o:Oper}{vs:List Value}{k:KV}
theorem ajA {kc:Nat}{a b:Value}(he:nL kc a b=some true):a=b:=by
 unfold nL at he
 split at he<;>first | (cases he;done) | skip
 · rename_i k1 x k2 y
   cases eW:gK k1 k2 with
   | false=>rw [eW]at he;cases he
   | true =>
    rw [eW]at he
    simp only [cond_true,Option.some.injEq,ur,beq_iff_eq]at he
    rw [o5 eW,he]
 · rename_i x y
   cases x<;>cases y<;>first | rfl | (simp at he)
 · rename_i x y
   simp only [Option.some.injEq,eqStr]at he
   rw [←beq_toListBytes]at he
   rw [(bytes_beq x y).1 he]
theorem ajB {kc:Nat}{x x':Value}(hx:VR φ x x') (ho:Ev kc x=true):Instr.sameBits 10000 x' x'=true:=by
 rw [show(10000:Nat)=9999+1 from rfl]
 unfold Ev at ho
 split at ho<;>first | (cases ho;done) | skip
 · rw [hx.iZ];simp [Instr.sameBits]
 · rw [hx.sv];simp [Instr.sameBits]
 · rw [hx.kV];simp [Instr.sameBits,bytes_beq]
theorem aai {kc:Nat}{d:TypeDesc}(hk:kU d=some kc):∀{es:List (Value×Value×Nat)}{dz:List MapEntry}{x x' y y':Value}{cl:Nat}{kk:List (Value×Value×Nat)→Nat→Bool}(i:Nat),ER φ es dz→VR φ x x'→VR φ y y'→pY kc es x y cl kk=true→
 ∃BL BM,kk BL BM=true∧((Instr.findNow d x' dz i=some none∧BM=cl+1∧ER φ BL (dz++[{key:=x',val:=y',born:=cl}]))∨
  ∃j v' e,Instr.findNow d x' dz i=some (some (i+j,v'))∧BM=cl∧dz[j]? =some e∧e.key=x'∧ER φ BL (dz.modify j fun e=>{e with key:=x',val:=y'}))
 | _,_,x,x',y,y',cl,kk,i,.nil,hx,hy,h=>by
  simp only [pY,cz]at h
  exact⟨_,_,h,.inl ⟨rfl,rfl,.cons _ _ _ _ _ _ hx hy rfl .nil⟩⟩
 | _,_,x,x',y,y',cl,kk,i,.cons a v b e l l' ha hv hb hl,hx,hy,h=>by
  unfold pY at h
  split at h
  · rename_i he
    obtain⟨h1,h2⟩:=Et hx ha he
    have hxa:=ajA he
    refine⟨_,_,h,.inr ⟨0,e.val,e, ?_,rfl,rfl,by rw [h2,h1,hxa], ?_⟩⟩
    · subst h1;simp [Instr.findNow,h2,BK hk he]
    · simp only [List.modify_zero_cons]
      exact .cons _ _ _ _ _ _ hx hy hb hl
  · rename_i he
    obtain⟨h1,h2⟩:=Et hx ha he
    obtain⟨BL,BM,q1,q2⟩:=aai hk (i+1) hl hx hy h
    rcases q2 with⟨q2,q3,q4⟩ | ⟨j,v',e2,q2,q3,q4,q5,q6⟩
    · refine⟨_,_,q1,.inl ⟨?_,q3,.cons _ _ _ _ _ _ ha hv hb q4⟩⟩
      subst h1;simp [Instr.findNow,h2,BK hk he,q2]
    · refine⟨_,_,q1,.inr ⟨j+1,v',e2, ?_,q3,by simpa using q4,q5, ?_⟩⟩
      · subst h1;simp [Instr.findNow,h2,BK hk he,q2];omega
      · simp only [List.modify_succ_cons]
        exact .cons _ _ _ _ _ _ ha hv hb q6
  · cases h
theorem aaj {t kt e':TypeId}{m x y:Operand}{kc:Nat}(ho:o.op= .mapUpdate t m x y∨o.op= .insert t m x y) (ht:P.underlying t=some (.map kt e')) (hk:(P.underlying kt).bind kU=some kc)
 (H:HR P w0 φ h w) (hv:LR φ vs ([m,x,y].map ρ)) (e:aak kc vs h k=true):PR P w0 φ h ((execOp ρ o).run P w) fun v h'=>k v h'=true:=by
 obtain⟨d,hd,Eu⟩:∃d,P.underlying kt=some d∧kU d=some kc:=by
  cases hu:P.underlying kt with
  | none=>simp [hu]at hk
  | some d=>exact⟨d,rfl,by simpa [hu]using hk⟩
 obtain⟨p,q,r,ar,e1⟩:=aal e;clear e;subst ar;have e:=e1;clear e1
 obtain⟨p',q',r',hp,hr,hq,hy⟩:=hv.three
 simp at hp;obtain⟨e1,e2,e3⟩:=hp;subst e1 e2 e3
 obtain⟨hko,e1⟩:=cI e
 have ajC:=ajB hq hko
 have cD:∀{w':World},(Instr.mapUpdate t (ρ m) (ρ x) (ρ y)).run P w= .ok () w'→(execOp ρ o).run P w= .ok .skip w':=by
  intro w' hh
  rcases ho with ho | ho<;>simp [execOp,ho,hh]
 rcases Kq e1 with⟨ar,e2⟩ | ⟨r0,ar,e2⟩<;>subst ar
 · cases e2
 · obtain⟨rb,hx,hs,o7⟩:=hr.Kr
   obtain⟨es,cl,g1,g2⟩:=yX e2
   obtain⟨dd,n,dz,m1,m2,m3,m4⟩:=H.RU hs o7 g1
   obtain⟨BL,BM,q1,q2⟩:=aai Eu 0 m3 hq hy g2
   obtain⟨bj,k1,k2⟩:=o8 q1
   have uu:(Instr.checkKey false 10000 kt (ρ x)).run P w= .ok () w:=aah hd Eu
   have bJ:rb<w.heap.size:=(Array.getElem?_eq_some_iff.1 m2).1
   have fin:∀{es3:Array MapEntry},ER φ BL es3.toList→(Instr.mapUpdate t (ρ m) (ρ x) (ρ y)).run P w= .ok () {w with heap:=w.heap.setIfInBounds rb (.map es3 BM)}→PR P w0 φ h ((execOp ρ o).run P w) fun v h'=>k v h'=true:=by
    intro es3 q3 q4
    refine⟨undef,_,undef,_,φ,.inr ⟨cD q4,rfl⟩,k2,Ext.refl _ _,Nat.le_refl _,VR.undef _, ?_⟩
    exact H.kE m1 k1 rfl (.map _ _ _ _ _ q3) m4 (by simp [bJ]) (fun k hk=>by simp [Ne.symm hk]) (by simp) rfl rfl rfl
   rcases q2 with⟨q2,rfl,q4⟩ | ⟨j,v',e2,q2,rfl,q4,q5,q6⟩
   · refine fin (es3:=dz.push {key:=ρ x,val:=ρ y,born:=cl}) (by simpa using q4) ?_
     have hf:=run_findKey (P:=P) (w:=w) hd q2
     simp [Instr.mapUpdate,run_underlying ht,hx,getObj,setObj,Sem.run,m2,uu,hf]
   · refine fin (es3:=dz.modify j fun e=>{e with key:=ρ x,val:=ρ y}) (by simpa using q6) ?_
     simp only [Nat.zero_add]at q2
     have hf:=run_findKey (P:=P) (w:=w) hd q2
     have Ks:dz[j]? =some e2:=by simpa using q4
     have kp:(Instr.keyThatStays (ρ x) (ρ x)).run P w= .ok (ρ x) w:=by simp [Instr.keyThatStays,ajC]
     simp [Instr.mapUpdate,run_underlying ht,hx,getObj,setObj,Sem.run,m2,uu,hf,Ks,q5,kp]
theorem ajD {x:Operand}{xt t:TypeId}{d:TypeDesc}{z:Value}(ho:o.op= .typeAssert x xt t true) (hu:P.underlying t=some d) (hd:∀m,d≠.interface m) (hz:zeroOf P t=some z) (H:HR P w0 φ h w) (hv:LR φ vs ([x].map ρ)) (e:Kt t z vs h k=true):PR P w0 φ h ((execOp ρ o).run P w) fun v h'=>k v h'=true:=by
 obtain⟨i,hi,hz,gB⟩:=pX hz
 obtain⟨p,ar,e1⟩:=fy e;clear e;subst ar;have e:=e1;clear e1
 obtain⟨p',hp,hr⟩:=hv.one
 simp at hp;subst hp
 unfold RV at e
 have yY:∀v:Value,(execOp ρ o).run P w=((Instr.typeAssert (ρ x) xt t true).run P w).andThen (fun a w'=>.ok (.value a) w'):=by intro _;simp [execOp,ho]
 split at e
 · have hx:ρ x= .nilIface:=by generalize ρ x=X at hr;cases hr;rfl
   refine .same H (v':=.tuple #[z,.bool false]) ?_ (.iy _ _ (.cons _ _ _ _ (qX gB) (.cons _ _ _ _ (.bool _) .nil))) e
   rw [yY undef,hx]
   simp only [Instr.typeAssert,Sem.run_bind,run_underlying hu,Result.andThen_ok]
   cases d<;>first | (exact absurd rfl (hd _)) | simp [sx hi hz]
 · rename_i t' v
   obtain⟨v',hx,Ku⟩:∃v',ρ x= .iface t' v'∧VR φ v v':=by generalize ρ x=X at hr;cases hr with | iface _ _ v' h=>exact⟨v',rfl,h⟩
   by_cases RW:t'=t
   · subst RW
     rw [ma rfl,cond_true]at e
     refine .same H (v':=.tuple #[v',.bool true]) ?_ (.iy _ _ (.cons _ _ _ _ Ku (.cons _ _ _ _ (.bool _) .nil))) e
     rw [yY undef,hx]
     simp only [Instr.typeAssert,Sem.run_bind,run_underlying hu,Result.andThen_ok]
     cases d<;>first | (exact absurd rfl (hd _)) | simp
   · rw [gg RW,cond_false]at e
     refine .same H (v':=.tuple #[z,.bool false]) ?_ (.iy _ _ (.cons _ _ _ _ (qX gB) (.cons _ _ _ _ (.bool _) .nil))) e
     rw [yY undef,hx]
     simp only [Instr.typeAssert,Sem.run_bind,run_underlying hu,Result.andThen_ok]
     cases d<;>first | (exact absurd rfl (hd _)) | simp [RW,sx hi hz]
 · cases e
theorem ajE {x:Operand}{t:TypeId}(ho:o.op= .range t x) (hu:P.underlying t=some .string) (H:HR P w0 φ h w) (hv:LR φ vs ([x].map ρ)) (e:aam vs h k=true):PR P w0 φ h ((execOp ρ o).run P w) fun v h'=>k v h'=true:=by
 obtain⟨p,ar,e1⟩:=fy e;clear e;subst ar;have e:=e1;clear e1
 obtain⟨p',hp,hr⟩:=hv.one
 simp at hp;subst hp
 obtain⟨s,ar,e1⟩:=mf e;clear e;subst ar;have e:=e1;clear e1
 obtain⟨bj,h1,h2⟩:=wi e
 obtain⟨g1,g2⟩:=H.newAt (f:=h.nx) (o:=.od s 0) (o':=.stringIter s 0) (d:=0) (n:=0) (h':=⟨h.nx+1,bj⟩) (H.fresh _ (Nat.le_refl _)) h1.1 (fun g hg _=>h1.2 g hg) (fun g hg=>H.fresh g (by simp only at hg;omega)) (fun g hg=>by rw [h1.2 g (by simp only at hg;omega)];exact H.top g (by simp only at hg;omega)) (by simp) _ (Nat.le_refl _) (.od _ _ _)
 refine⟨_,_,_,_,_,.inl ?_,h2,g2,by simp,PR.BN,g1⟩
 simp only [execOp,ho,hr.kV]
 simp [run_range_string w t s hu,World.iter]
theorem ajF {x:Operand}(ho:o.op= .next x true) (H:HR P w0 φ h w) (hv:LR φ vs ([x].map ρ)) (e:aan vs h k=true):PR P w0 φ h ((execOp ρ o).run P w) fun v h'=>k v h'=true:=by
 obtain⟨p,ar,e1⟩:=fy e;clear e;subst ar;have e:=e1;clear e1
 obtain⟨p',hp,hr⟩:=hv.one
 simp at hp;subst hp
 obtain⟨a,ar,e1⟩:=mO e;clear e;subst ar;have e:=e1;clear e1
 obtain⟨a',hx,hs,dH⟩:=hr.lB
 obtain⟨h0,e1⟩:=cI e
 have h0:=Nat.eq_of_beq_eq_true h0
 obtain⟨s,pos,g1,g2⟩:=ajG e1
 obtain⟨b,d,n,o',m1,m2,m3,m4⟩:=H.live hs g1
 obtain⟨q1,q2,q3⟩:=dH b d n m1
 cases m3
 have Kv:a'=⟨b,0,none⟩:=by cases a';simp_all
 have bJ:b<w.heap.size:=(Array.getElem?_eq_some_iff.1 m2).1
 unfold aao at g2
 split at g2
 · rename_i c hc
   have gL:pos<s.size:=by
    have:pos<s.data.toList.length:=(List.getElem?_eq_some_iff.1 hc).1
    simpa using this
   have fin:∀(c n:Nat) (bj:NT AO),Utf8.decode s pos=(c,n)→h.ob.ko a.block (some (.od s (pos+n))) bj→k (.tuple #[.bool true,.int .i64 (Int.ofNat pos),.int .i32 (Int.ofNat c)]) ⟨h.nx,bj⟩=true→
    PR P w0 φ h ((execOp ρ o).run P w) fun v h'=>k v h'=true:=fun c n bj RX k1 k2=>by
    refine⟨.tuple #[.bool true,.int .i64 (Int.ofNat pos),.int .i32 (Int.ofNat c)],{w with heap:=w.heap.setIfInBounds b (.stringIter s (pos+n))},_,_,φ,.inl ?_,k2,Ext.refl _ _,Nat.le_refl _,.iy _ _ (.cons _ _ _ _ (.bool _) (.cons _ _ _ _ (.int _ _) (.cons _ _ _ _ (.int _ _) .nil))), ?_⟩
    · simp [execOp,ho,hx,Kv,Instr.next,getObj,setObj,Sem.run,m2,gL,RX,goInt]
    · exact H.kE m1 k1 rfl (.od _ _ _) (m4 rfl) (by simp [bJ]) (fun k hk=>by simp [Ne.symm hk]) (by simp) rfl rfl rfl
   cases Ew:Nat.ble (Nat.succ c.toNat) 128 with
   | true =>
    rw [Ew]at g2
    have Ew:c.toNat<128:=Nat.le_of_ble_eq_true Ew
    have g3:fN (Nat.succ pos) (fun pos'=>iK h a.block (some (.od s pos')) fun h=>fN c.toNat fun n=>k (.tuple ⟨[.bool true,.int .i64 (.ofNat pos),.int .i32 (.ofNat n)]⟩) h)=true:=g2
    rw [cz]at g3
    obtain⟨bj,k1,k2⟩:=o8 g3
    rw [cz]at k2
    have fm:s[pos]'gL=c:=by
     have h3:s.data.toList[pos]'(by simpa using gL)=c:=(List.getElem?_eq_some_iff.1 hc).2
     have h4:s.data[pos]'gL=c:=by simpa using h3
     exact h4
    have RX:Utf8.decode s pos=(c.toNat,1):=by
     rw [decode_ascii s pos gL (by rw [fm];exact Ew),fm]
    exact fin _ _ bj RX k1 k2
   | false =>
    rw [Ew]at g2
    have g3:iK h a.block (some (.od s (pos+(Utf8.decode s pos).2))) (fun h=>k (.tuple ⟨[.bool true,.int .i64 (.ofNat pos),.int .i32 (.ofNat (Utf8.decode s pos).1)]⟩) h)=true:=g2
    obtain⟨bj,k1,k2⟩:=o8 g3
    exact fin _ _ bj rfl k1 k2
 · rename_i hc
   have gL:¬pos<s.size:=by
    have:=List.getElem?_eq_none_iff.1 hc
    simp at this
    have h2:s.size=s.data.size:=rfl
    omega
   refine .same H (v':=.tuple #[.bool false]) ?_ (.iy _ _ (.cons _ _ _ _ (.bool _) .nil)) g2
   simp [execOp,ho,hx,Kv,Instr.next,getObj,setObj,Sem.run,m2,gL]
end
end Go.Ve
namespace Go.Ve
open Go.RowKit
section
variable {P:Program}{w0 w:World}{φ:aO}{h:AH}{ρ:Operand→Value}{o:Oper}{vs:List Value}{k:KV}
theorem aap (off:Nat):∀(l:List Value) (n:Nat) (cells:Array Value),off+n+l.length≤cells.size→
 ((l.zipIdx n).foldl (fun(cs:Array Value) (p:Value×Nat)=>cs.setIfInBounds (off+p.2) p.1) cells).toList=cells.toList.take (off+n)++l++cells.toList.drop (off+n+l.length)
 | [],n,cells,_=>by simp
 | v::l,n,cells,h=>by
  simp only [List.length_cons]at h
  simp only [List.zipIdx_cons,List.foldl_cons]
  rw [aap off l (n+1) _ (by simp;omega)]
  simp only [Array.toList_setIfInBounds]
  have:=list_seg_step cells.toList (off+n) v l (by simp;omega)
  simp only [List.length_cons]
  rw [←this]
  congr 2
theorem aaq (off:Nat) (v:Value) (cells:Array Value) (h:off+v.cells.size≤cells.size) :
 (v.cells.zipIdx.foldl (fun cs (c,j)=>cs.setIfInBounds (off+j) c) cells)=(cells.toList.take off++v.cells.toList++cells.toList.drop (off+v.cells.toList.length)).toArray:=by
 apply Array.ext'
 rw [←Array.foldl_toList,Array.toList_zipIdx]
 have:=aap off v.cells.toList 0 cells (by simpa using h)
 simpa using this
theorem Kw {place:Nat→Option (Nat×Nat)}:∀{ps:List (Nat×Nat)}{parts:List (Nat×Value)}{l l' vs:List Value}{kk:List Value→Bool},kF l ps vs kk=true→LR φ l l'→LR φ vs (parts.map (·.2))→parts.map (fun p=>place p.1)=ps.map some→
 ∃r r',kk r=true∧LR φ r r'∧Instr.fill place l'.toArray parts=some r'.toArray
 | [],parts,l,l',vs,kk,h,hl,hv,hp=>by
  have RY:parts=[]:=by cases parts with | nil=>rfl | cons _ _=>simp at hp
  subst RY
  cases vs with
  | cons _ _=>cases h
  | nil=>exact⟨l,l',h,hl,rfl⟩
 | (off,sz)::ps,parts,l,l',vs,kk,h,hl,hv,hp=>by
  cases parts with
  | nil=>simp at hp
  | cons part parts =>
   obtain⟨i,v'⟩:=part
   simp only [List.map_cons,List.cons.injEq]at hp
   cases vs with
   | nil=>cases h
   | cons v vs =>
    simp only [List.map_cons]at hv
    cases hv with | cons _ _ _ _ uv o9 =>
    have h':(bif jT (cellsOf v) sz then pZ l off (cellsOf v) fun l'=>kF l' ps vs kk else false)=true:=h
    cases hle:jT (cellsOf v) sz with
    | false=>rw [hle]at h';cases h'
    | true =>
     rw [hle,cond_true]at h'
     have fQ:=Kx _ hle
     rw [BO]at fQ h'
     obtain⟨h1,h2⟩:=aar l h'
     have hc:=VR.cells uv
     have lC:=hc.length
     have pa:=hl.length
     have ajH:LR φ (l.take off++v.cells.toList++l.drop (off+v.cells.toList.length)) (l'.take off++v'.cells.toList++l'.drop (off+v'.cells.toList.length)):=by
      rw [←lC]
      exact LR.append (hl.drop _) (LR.append hc (hl.take off))
     obtain⟨r,r',q1,q2,q3⟩:=Kw h1 ajH o9 hp.2
     refine⟨r,r',q1,q2, ?_⟩
     have sy:v'.cells.size=sz:=by rw [←fQ,lC];simp
     have qV:¬(off+v'.cells.size > l'.toArray.size):=by simp;rw [sy];omega
     simp only [Instr.fill,hp.1]
     rw [if_neg (by simp [sy];simp at qV;rw [sy]at qV;omega)]
     rw [aaq off v' l'.toArray (by simp at qV;simp;omega)]
     exact q3
def BP:List Value→List Value
 | []=>[]
 | v::vs=>v.cells.toList++BP vs
theorem aas:∀{ss:List Nat}{vs:List Value}{kk:List Value→Bool},yZ ss vs kk=true→kk (BP vs)=true∧vs.map (fun v=>v.cells.size)=ss
 | [],vs,kk,h=>by
  obtain⟨rfl,h⟩:=wj (show a0 vs (kk [])=true from h)
  exact⟨h,rfl⟩
 | n::ss,vs,kk,h=>by
  cases vs with
  | nil=>cases h
  | cons v vs =>
   obtain⟨h1,h2⟩:=cI (show iff (jT (cellsOf v) n) (yZ ss vs fun l=>jF (cellsOf v) l kk)=true from h)
   obtain⟨h3,h4⟩:=aas h2
   have:=uk _ _ h3
   rw [BO]at this
   have hs:=Kx _ h1
   rw [BO]at hs
   exact⟨this,by simp [h4];simpa using hs⟩
theorem aat:∀{vs jH:List Value},LR φ vs jH→LR φ (BP vs) (BP jH)
 | _,_,.nil=>.nil
 | _,_,.cons _ _ _ _ h hl=>LR.append (aat hl) (VR.cells h)
theorem LR.yU:∀{vs jH:List Value},LR φ vs jH→vs.map (fun v=>v.cells.size)=jH.map (fun v=>v.cells.size)
 | _,_,.nil=>rfl
 | _,_,.cons _ _ _ _ h hl=>by
  have:=(VR.cells h).length
  simp only [List.map_cons,LR.yU hl]
  congr 1
theorem aau {place:Nat→Option (Nat×Nat)}:∀{ps:List (Nat×Nat)}{parts:List (Nat×Value)}{n m:Nat}{done rest:List Value},wk n ps m=true→parts.map (fun p=>place p.1)=ps.map some→parts.map (fun p=>p.2.cells.size)=ps.map (·.2)→
 done.length=n→n+rest.length=m→Instr.fill place (done++rest).toArray parts=some (done++BP (parts.map (·.2))).toArray
 | [],parts,n,m,done,rest,hc,hp,hs,hd,hr=>by
  have RY:parts=[]:=by cases parts with | nil=>rfl | cons _ _=>simp at hp
  subst RY
  simp only [wk,beq_iff_eq]at hc
  have:rest=[]:=List.eq_nil_of_length_eq_zero (by omega)
  subst this
  rfl
 | (off,sz)::ps,parts,n,m,done,rest,hc,hp,hs,hd,hr=>by
  cases parts with
  | nil=>simp at hp
  | cons part parts =>
   obtain⟨i,v'⟩:=part
   simp only [List.map_cons,List.cons.injEq]at hp hs
   simp only [wk,Bool.and_eq_true,beq_iff_eq]at hc
   obtain⟨rfl,hc⟩:=hc
   have hm:n+sz≤m:=by
    have:∀(ps:List (Nat×Nat)) (n m:Nat),wk n ps m=true→n≤m:=by
     intro ps
     induction ps with
     | nil=>intro n m h;simp only [wk,beq_iff_eq]at h;omega
     | cons p ps ih=>intro n m h;obtain⟨a,b⟩:=p;simp only [wk,Bool.and_eq_true,beq_iff_eq]at h;have:=ih _ _ h.2;omega
    exact this _ _ _ hc
   have sy:v'.cells.size=sz:=hs.1
   simp only [Instr.fill,hp.1]
   rw [if_neg (by simp [sy];omega)]
   rw [aaq n v' _ (by simp;omega)]
   have e1:List.take n (done++rest).toArray.toList++v'.cells.toList++List.drop (n+v'.cells.toList.length) (done++rest).toArray.toList=(done++v'.cells.toList)++rest.drop sz:=by
    have uw:v'.cells.toList.length=sz:=by simpa using sy
    simp only [uw]
    rw [List.take_append_of_le_length (by omega),List.take_of_length_le (by omega)]
    congr 1
    rw [List.drop_append]
    simp [hd]
   rw [e1]
   have:=aau (place:=place) (done:=done++v'.cells.toList) (rest:=rest.drop sz) hc hp.2 hs.2 (by simp;omega) (by simp;omega)
   rw [this]
   simp [BP,List.append_assoc]
theorem run_places:∀(fs:List Field),(∀f∈fs,(fo P f.type).isSome=true)→(fs.mapM fun f=>(do pure (f.offset,←sizeOf f.type):Sem (Nat×Nat))).run P w= .ok (fs.map fun f=>(f.offset,(fo P f.type).getD 0)) w
 | [],_=>by simp
 | f::fs,h=>by
  obtain⟨s,hs⟩:=Option.isSome_iff_exists.1 (h f (by simp))
  obtain⟨i,hi,rfl⟩:=mP hs
  have ih:=run_places fs (fun g hg=>h g (by simp [hg]))
  rw [List.mapM_cons]
  simp only [Sem.run_bind,kD hi,Result.andThen_ok,Sem.run_pure,ih,List.map_cons,hs,Option.getD_some]
theorem mapM_some {α β:Type}{f:α→Option β}:∀{l:List α}{r:List β},l.mapM f=some r→l.map f=r.map some
 | [],r,h=>by simp at h;subst h;rfl
 | a::l,r,h=>by
  simp only [List.mapM_cons,Option.bind_eq_bind,Option.bind_eq_some_iff]at h
  obtain⟨b,hb,r',hr,e⟩:=h
  simp at e
  subst e
  simp [hb,mapM_some hr]
theorem aav {t:TypeId}{parts:Array (Nat×Operand)}{z:Value}{ps:List (Nat×Nat)}{place:Nat→Option (Nat×Nat)}(hz:zeroOf P t=some z)
 (cD:∀{cells:Array Value},Instr.fill place z.cells (parts.map fun(i,x)=>(i,ρ x)).toList=some cells→(execOp ρ o).run P w= .ok (.value (.agg cells)) w)
 (gL:parts.toList.map (fun p=>place p.1)=ps.map some) (H:HR P w0 φ h w) (hv:LR φ vs ((parts.toList.map (·.2)).map ρ)) (e:(za z.cells.toList ps).ev vs h k=true):PR P w0 φ h ((execOp ρ o).run P w) fun v h'=>k v h'=true:=by
 obtain⟨i,hi,oi,gB⟩:=pX hz
 have pb:(parts.map fun(i,x)=>(i,ρ x)).toList.map (fun p=>place p.1)=ps.map some:=by
  rw [←gL];simp [Function.comp_def]
 have uw:LR φ vs ((parts.map fun(i,x)=>(i,ρ x)).toList.map (·.2)):=by
  simpa [Function.comp_def]using hv
 have sA:LR φ z.cells.toList z.cells.toList:=VR.cells (qX gB)
 unfold za at e
 split at e
 · rename_i hc
   obtain⟨e1,e2⟩:=aas (show yZ (ps.map (·.2)) vs (fun l=>k (.agg ⟨l⟩) h)=true from e)
   have hf:=aau (place:=place) (done:=[]) (rest:=z.cells.toList) hc pb (by rw [←e2,LR.yU uw];simp) rfl (by simp)
   exact .same H (cD (by simpa using hf)) (.agg _ _ (by simpa using aat uw)) e1
 · obtain⟨r,r',q1,q2,q3⟩:=Kw (place:=place) (show kF z.cells.toList ps vs (fun l=>k (.agg ⟨l⟩) h)=true from e) sA uw pb
   exact .same H (cD (by simpa using q3)) (.agg _ _ (by simpa using q2)) q1
theorem ajI {t:TypeId}{parts:Array (Nat×Operand)}{fs:Array Field}{z:Value}{ps:List (Nat×Nat)}(ho:o.op= .build t parts) (hu:P.underlying t=some (.struct fs)) (hz:zeroOf P t=some z) (gz:∀f∈fs.toList,(fo P f.type).isSome=true)
    (gL:parts.toList.mapM (fun p=>(fs[p.1]?).bind fun f=>(fo P f.type).map fun s=>(f.offset,s))=some ps) (H:HR P w0 φ h w) (hv:LR φ vs ((parts.toList.map (·.2)).map ρ)) (e:(za z.cells.toList ps).ev vs h k=true):PR P w0 φ h ((execOp ρ o).run P w) fun v h'=>k v h'=true:=by
  obtain⟨i,hi,oi,gB⟩:=pX hz
  refine aav (place:=fun j=>(fs.map fun f=>(f.offset,(fo P f.type).getD 0))[j]?) hz (fun {cells} hf=> ?_) ?_ H hv e
  · have pb:(fs.mapM fun f=>(do pure (f.offset,←sizeOf f.type):Sem (Nat×Nat))).run P w= .ok (fs.map fun f=>(f.offset,(fo P f.type).getD 0)) w:=by
      rw [Array.mapM_eq_mapM_toList]
      simp only [Sem.run_map,run_places fs.toList gz,Result.andThen_ok]
      congr 1
      apply Array.ext'
      simp
    simp only [execOp,ho,Instr.build,Sem.run_bind,sx hi oi,Result.andThen_ok,run_underlying hu]
    rw [pb]
    simp only [Result.andThen_ok]
    rw [hf]
    simp
  · rw [←mapM_some gL]
    apply List.map_congr_left
    intro p hp
    simp only [Array.getElem?_map]
    cases hfp:fs[p.1]? with
    | none=>simp
    | some f =>
      have hm:f∈fs.toList:=by simpa using Array.mem_of_getElem? hfp
      obtain⟨s,hs⟩:=Option.isSome_iff_exists.1 (gz f hm)
      simp [hs]
theorem ajJ {t e':TypeId}{n s:Nat}{parts:Array (Nat×Operand)}{z:Value}(ho:o.op= .build t parts) (hu:P.underlying t=some (.array n e')) (hz:zeroOf P t=some z) (hs:fo P e'=some s)
 (H:HR P w0 φ h w) (hv:LR φ vs ((parts.toList.map (·.2)).map ρ)) (e:(za z.cells.toList (parts.toList.map fun p=>(p.1*s,s))).ev vs h k=true):PR P w0 φ h ((execOp ρ o).run P w) fun v h'=>k v h'=true:=by
 obtain⟨i,hi,oi,gB⟩:=pX hz
 obtain⟨i2,gJ,rfl⟩:=mP hs
 refine aav (place:=fun j=>some (j*i2.size,i2.size)) hz (fun {cells} hf=> ?_) ?_ H hv e
 · simp only [execOp,ho,Instr.build,Sem.run_bind,sx hi oi,Result.andThen_ok,run_underlying hu,kD gJ]
   rw [hf]
   simp
 · simp [Function.comp_def]
theorem ajK {t e':TypeId}{n s:Nat}{parts:Array (Nat×Operand)}{z:Value}(ho:o.op= .buildSlice t n parts) (hu:P.underlying t=some (.slice e')) (hz:zeroOf P e'=some z) (hs:fo P e'=some s) (hle:n*s≤65536) (nK:z.cells.size=s) (h0:0<s)
    (H:HR P w0 φ h w) (hv:LR φ vs ((parts.toList.map (·.2)).map ρ)) (e:aaw e' n (kT n z.cells.toList) (parts.toList.map fun p=>(p.1*s,s)) vs h k=true):PR P w0 φ h ((execOp ρ o).run P w) fun v h'=>k v h'=true:=by
  obtain⟨i,hi,oi,gB⟩:=pX hz
  obtain⟨i2,gJ,qV⟩:=mP hs
  rw [hi]at gJ;cases gJ
  subst qV
  have pb:(parts.map fun(i,x)=>(i,ρ x)).toList.map (fun p=>some (p.1*i.size,i.size))=(parts.toList.map fun p=>(p.1*i.size,i.size)).map some:=by simp [Function.comp_def]
  have uw:LR φ vs ((parts.map fun(i,x)=>(i,ρ x)).toList.map (·.2)):=by simpa [Function.comp_def]using hv
  obtain⟨r,r',q1,q2,q3⟩:=Kw (place:=fun j=>some (j*i.size,i.size)) e (LR.Ko (VR.cells (qX (φ:=φ) gB)) n) uw pb
  obtain⟨qW,c,bj,k1,k2,k3⟩:=uo q1
  obtain⟨r1,r2⟩:=PR.newRow H q2 k1 k2
  have hm:((Array.range (n*i.size)).map fun j=>z.cells[j % z.cells.size]!)=(kT n z.cells.toList).toArray:=by
    apply Array.ext'
    have:=RQ z.cells (by omega) n
    rw [←nK]
    simpa [madeCells]using this
  have wm:Instr.fill (fun j=>some (j*i.size,i.size)) (kT n z.cells.toList).toArray (List.map (fun x=>(x.fst,ρ x.snd)) parts.toList)=some r'.toArray:=by simpa using q3
  have cD:(execOp ρ o).run P w= .ok (.value (.slice (some ⟨w.heap.size,0,none⟩) n n)) (w.alloc (.cells r'.toArray e')):=by
    have Ex:¬(16777216<n*i.size):=by omega
    simp only [execOp,ho,Instr.buildSlice,Sem.run_bind,run_underlying hu,Result.andThen_ok,kD hi]
    by_cases oj:n*i.size=0
    · have Ey:((Array.range (n*i.size)).map fun j=>(#[]:Array Value)[j % (#[]:Array Value).size]!)=(kT n z.cells.toList).toArray:=by
        rw [←hm,oj];simp [Array.range_zero']
      simp [Ex,oj]
      simp [oj]at Ey
      rw [Ey]
      rw [wm]
      simp [newRow,World.alloc_eq]
    · simp [Ex,oj,sx hi oi]
      rw [hm,wm]
      simp [newRow,World.alloc_eq]
  refine⟨_,_,_,_,_,.inl cD,k3,r2,by simp,.sl _ _ _ _ _ (by simp [aO.put]) (.inl ⟨by unfold bg;have:n≤n*i.size:=Nat.le_mul_of_pos_right n h0;omega,rfl,Nat.le_refl _,fun _ b d m hl=> ?_⟩),r1⟩
  simp only [aO.jG]at hl
  cases hl
  exact⟨rfl,rfl,rfl⟩
end
end Go.Ve
