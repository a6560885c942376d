/- Part 7: append, copy, make, maps, strings, composite values. No condition. And more. -/
import Derived.Test.YteeibihhdldjfaaGreatDoorVeF
import Derived.MapKept
set_option linter.unusedVariables false
set_option linter.unusedSimpArgs false
namespace Go.Ve
open Go.RowKit
section
variable {P:Program}{w0 w:World}{φ:aY}{h:AH}{ρ:Operand→Value}{o:Oper}{vs:List Value}{k:KV}
theorem ayN {x x' sz kk}(H:HR P w0 φ h w)(hr:VR φ x x')(e:rh h sz x kk=true):
 ∃n xs tO,kk n xs=true∧xs.length=n*sz∧LR φ xs tO∧(Builtin.lenOf x').run P w= .ok n w∧∀w',w'.heap=w.heap→(Builtin.firstCells sz n x').run P w'= .ok tO.toArray w':=by
 unfold rh at e;rcases wZ e with⟨l0,c0,aM,e1⟩ | ⟨a,len,cap,aM,e1⟩<;>clear e<;>subst aM
 · obtain⟨rfl,rfl,hx⟩:=hr.yj;subst hx;exact⟨0,[],[],e1,by simp,.nil,by simp [Builtin.lenOf],fun w' _=>by simp [Builtin.firstCells]⟩
 · obtain⟨a',eX,hx,hs,hc⟩:=hr.vD;subst hx
   by_cases hn:len=0
   · subst hn;rw [qh rfl,zam]at e1;exact⟨0,[],[],e1,by simp,.nil,by simp [Builtin.lenOf],fun w' _=>by simp [Builtin.firstCells,loadCells,loadCellsFrom]⟩
   · rw [jt hn,zak]at e1
     have eU:AtR φ a a':=by
      rcases hc with⟨h1,h2,Aq,h3⟩ | ⟨sz,h1,h2,h3,h4⟩
      · exact h3 (by omega)
      · exact(h4 (by omega)).1
     obtain⟨lo,hi,ty,tu,c,l,g1,g2,g3,g4,g5,g6⟩:=B7 e1;have Iw:a.off+l.length≤hi:=by rw [g4];exact g3
     obtain⟨l',q1,q2⟩:=H.cells (P:=P) hs eU g1 g2 Iw g5;refine⟨len,l,l',g6,g4,q1,by simp [Builtin.lenOf],fun w' hw=>?_⟩;have:=q2 w' hw;rw [g4]at this;exact this
theorem UJ {tH t u e eu ty i}(ht:P.underlying t=some (.slice e))(hu:P.underlying u=some (.slice eu)∨P.underlying u=some .string)(hi:P.info? e=some i)(h0:tH[0]? =some t)(h1:tH[1]? =some u)
 {a:Option Addr}{sLen sCap n:Nat}{x:Z}{news:ZZE}{w2:World}(hlen:(Builtin.lenOf x).run P w= .ok n w) (hf:(Builtin.firstCells i.size n x).run P w= .ok news.toArray w)
 (mV:(match a with | some b=>(storeCells (b.add (sLen*i.size)) news).run P w | none=>.ok () w)= .ok () w2) (vg:sLen+n≤sCap):
 (Builtin.append_ tH ty #[.slice a sLen sCap,x]).run P w= .ok (.slice a (sLen+n) sCap) w2:=by
 have h0':tH[0]? =some t:=h0;cases a with
 | none=>
  simp only [Result.ok.injEq]at mV;obtain⟨_,rfl⟩:=mV;rcases hu with hu | hu<;>simp [Builtin.append_,h0,h1,run_underlying ht,run_underlying hu,sizeOf,typeInfo,hi,hlen,vg,hf]
 | some b=>
  rcases hu with hu | hu<;>simp [Builtin.append_,h0,h1,run_underlying ht,run_underlying hu,sizeOf,typeInfo,hi,hlen,vg,hf,mV]
theorem UK {tH t u e eu ty i z}(ht:P.underlying t=some (.slice e))(hu:P.underlying u=some (.slice eu)∨P.underlying u=some .string)(hi:P.info? e=some i)(hz:i.zero=some z)(h0:tH[0]? =some t)(h1:tH[1]? =some u)
 {a:Option Addr}{sLen sCap n:Nat}{x:Z}{olds news:ZZE}(hlen:(Builtin.lenOf x).run P w= .ok n w) (hf:∀w',w'.heap=w.heap→(Builtin.firstCells i.size n x).run P w'= .ok news.toArray w')
 (UI:∀w',w'.heap=w.heap→(Builtin.firstCells i.size sLen (.slice a sLen sCap)).run P w'= .ok olds.toArray w') (hg:sCap<sLen+n) (hb:(sLen+n)*i.bytes≤140737488355328) (aI5:sLen+n≤1048576):
 ∃nc,sLen+n≤nc∧(Builtin.append_ tH ty #[.slice a sLen sCap,x]).run P w= .ok (.slice (some ⟨w.heap.size,0,none⟩) (sLen+n) nc) (w.drew.alloc (.cells ((olds++news).toArray++Builtin.zeroCells z.cells (nc-(sLen+n))) e)):=by
 refine⟨grownCap w (sLen+n) sCap e,grownCap_ge w _ _ _,?_⟩;have hn:¬(sLen+n≤sCap):=by omega
 have TO:¬(9223372036854775807<((sLen:Int)+(n:Int))):=by omega
 have Ig:=growslice_fits (bytes:=i.bytes) hg hb;have amK:¬(281474976710656<Builtin.nextslicecap (sLen+n) sCap*i.bytes):=by omega
 have E8:=hf w.drew rfl;have E9:=UI w.drew rfl;rcases hu with hu | hu
 · simp [Builtin.append_,h0,h1,run_underlying ht,run_underlying hu,sizeOf,typeInfo,zeroValue,hi,hz,hlen,hn,TO,amK,Question.forced,E8,E9,newRow,grownCap];rw [←Array.append_assoc];simp
 · simp [Builtin.append_,h0,h1,run_underlying ht,run_underlying hu,sizeOf,typeInfo,zeroValue,hi,hz,hlen,hn,TO,amK,Question.forced,E8,E9,newRow,grownCap];rw [←Array.append_assoc];simp
theorem AtR.add {a a'}(h:AtR φ a a')(n:Nat):AtR φ ⟨a.block,a.off+n,none⟩ (a'.add n):=by
 intro b d m hl;obtain⟨e1,e2,e3⟩:=h b d m hl;rw [si a' e3];exact⟨e1,by show a'.off+n+d=a.off+n;omega,rfl⟩
theorem PR.ayO (H:HR P w0 φ h w){ty:TypeId}{l l':ZZE}(hl:LR φ l l'){arr:Array Z}(ayP:∀(j:Nat) (v:Z),l'[j]? =some v→arr[j]? =some v){c:NT Z}{o:Nat}{bU:NT AO}(hc:∀(j:Nat) (v:Z),l[j]? =some v→c.get (o+j)=some v)
 (ee:h.ob.mU h.nx (some (.cells o (o+l.length) ty true c)) bU):
 HR P w0 (φ.put h.nx (.live w.heap.size o arr.size)) ⟨h.nx+1,bU⟩ (w.alloc (.cells arr ty))∧Ext h.nx φ (φ.put h.nx (.live w.heap.size o arr.size)):=by
 refine H.newAt (H.fresh _ (zad _)) ee.1 (fun g hg _=>ee.2 g hg) (fun g hg=>H.fresh g (by simp only at hg;omega)) (fun g hg=>by rw [ee.2 g (by simp only at hg;omega)];exact H.top g (by simp only at hg;omega)) (by simp) _ (zad _) (.cells _ _ _ _ _ _ _ _ _ (fun _=>rfl) (zad _) rfl fun p hp1 hp2=>?_);obtain⟨j,rfl⟩:∃j,p=o+j:=⟨p-o,by omega⟩;have hj:j<l.length:=by omega
 obtain⟨u,hu,hr⟩:=LR.get hl j _ (zab hj);exact⟨l[j],u,hc j _ (zab hj),by rw [show o+j-o=j by omega];exact ayP j u hu,hr⟩
theorem HR.drew (H:HR P w0 φ h w):HR P w0 φ h w.drew:=H.world rfl rfl rfl rfl
theorem PR.UL {r}(H:HR P w0 φ h w){ty:TypeId}{l l':ZZE}{z:Z}{sz n nc o:Nat}(je:0<sz)(hz:z.cells.size=sz)(hl:LR φ l l')(hlen:l.length=n*sz)(hnc:n≤nc){c:NT Z}{bU:NT AO}
 (hc:∀(j:Nat) (v:Z),l[j]? =some v→c.get (o+j)=some v) (ee:h.ob.mU h.nx (some (.cells o (o+l.length) ty true c)) bU){k:KV}(e:k (.slice (some ⟨h.nx,o,none⟩) n (bQ+sz)) ⟨h.nx+1,bU⟩=true)
 (hr:r= .ok (.value (.slice (some ⟨w.heap.size,0,none⟩) n nc)) (w.drew.alloc (.cells (l'.toArray++Builtin.zeroCells z.cells (nc-n)) ty))):PR P w0 φ h r fun v h'=>k v h'=true:=by
 obtain⟨g1,g2⟩:=PR.ayO (P:=P) H.drew (arr:=l'.toArray++Builtin.zeroCells z.cells (nc-n)) hl (fun j v hj=>by
  have:j<l'.length:=(List.getElem?_eq_some_iff.1 hj).1;rw [Array.getElem?_append];simp [this];simpa using (List.getElem?_eq_some_iff.1 hj).2) hc ee
 refine⟨_,_,_,_,_,.inl hr,e,g2,by simp,.sl _ _ _ _ _ (by simp [aY.put]) (.inr ⟨sz,rfl,je,hnc,fun _=>⟨fun b d m hl=>?_,fun b d m hl=>?_⟩⟩),g1⟩
 · simp only [aY.me]at hl;cases hl;exact⟨rfl,by show 0+o=o;omega,rfl⟩
 · simp only [aY.me]at hl;cases hl;have h2:=hl.length;simp only [Array.size_append,List.size_toArray,size_zeroCells,hz];rw [←h2,hlen,←zaR];show 0+nc*sz≤_;have:n+(nc-n)=nc:=by omega
   rw [this];omega
theorem HR.ayQ (H:HR P w0 φ h w){a a':Addr}{lo hi:Nat}{ty:TypeId}{rw:Bool}{c:NT Z}(hs:φ a.block≠none)(ha:AtR φ a a')(ho:h.ob.get a.block=some (.cells lo hi ty rw c))(m:Nat)(h1:lo≤a.off)(h2:a.off+m≤hi):
 ∃l l',l.length=m∧(∀j v,l[j]? =some v→c.get (a.off+j)=some v)∧LR φ l l'∧∀w',w'.heap=w.heap→(loadCells a' m).run P w'= .ok l'.toArray w':=by
 obtain⟨b,d,arr,_,_,_,_,_,_,_,hc,_⟩:=H.at hs ha ho
 let l:=(List.range m).map fun j=>(c.get (a.off+j)).getD undef
 have qm:l.length=m:=by simp [l]
 have wb:∀j v,l[j]? =some v→c.get (a.off+j)=some v:=by
  intro j v hj;have hjm:j<m:=by have:=(List.getElem?_eq_some_iff.1 hj).1;omega
  obtain⟨u,u',q1,_,_⟩:=hc (a.off+j) (by omega) (by omega);simp [l,hjm,q1]at hj;rw [q1,hj]
 obtain⟨l',q1,q2⟩:=H.cells (P:=P) hs ha ho h1 (by omega) wb;exact⟨l,l',qm,wb,q1,fun w' hw=>by have:=q2 w' hw;rwa [qm]at this⟩
theorem HR.ayR (H:HR P w0 φ h w){f B d n:Nat}{o:AO}{o':Obj}{h':AH}{w':World}(hf:φ f=none)(hB:∀g b d n,φ g=some (.live b d n)→b≠B)(ee:h.ob.mU f (some o) h'.ob)(nM:h.nx≤h'.nx)(hnf:f<h'.nx)(N:Nat)(hN:N≤f)
 (ho:OR P φ d n o o') (hb:w0.heap.size≤B) (h1:w'.heap[B]? =some o') (h2:∀k,k≠B→w'.heap[k]? =w.heap[k]?) (h3:w'.heap.size=w.heap.size) (h4:w'.os=w.os) (h5:w'.tape=w.tape) (h6:w'.output=w.output):
 HR P w0 (φ.put f (.live B d n)) h' w'∧Ext N φ (φ.put f (.live B d n)):=by
 have hE:Ext N φ (φ.put f (.live B d n)):=aY.TU φ _ hf hN
 have key:∀g b e m,(φ.put f (.live B d n)) g=some (.live b e m)→(g=f∧b=B∧e=d∧m=n)∨(g≠f∧φ g=some (.live b e m)∧b≠B):=by
  intro g b e m hg
  by_cases fT:g=f
  · subst fT;rw [aY.me]at hg;cases hg;exact .inl ⟨rfl,rfl,rfl,rfl⟩
  · rw [aY.mi _ _ fT]at hg;exact .inr ⟨fT,hg,hB g b e m hg⟩
 refine⟨⟨?_,?_,fun g hg=>by rw [ee.2 g (by omega)];exact H.top g (by omega),?_,?_,?_⟩,hE⟩
 · intro g g' b e e' m m' vZ hg xe;rcases key g b e m hg with⟨a1,a2,_⟩ | ⟨a1,a2,a3⟩<;>rcases key g' b e' m' xe with⟨b1,b2,_⟩ | ⟨b1,b2,b3⟩
   · rw [a1,b1]
   · exact absurd a2 b3
   · exact absurd b2 a3
   · exact H.inj g g' b e e' m m' vZ a2 b2
 · intro g hg;rw [aY.mi _ _ (by omega)];exact H.fresh g (by omega)
 · intro g hg
   by_cases fT:g=f
   · subst fT;rw [aY.me]at hg;cases hg
   · rw [aY.mi _ _ fT]at hg;rw [ee.2 g fT];exact H.dead g hg
 · intro g b e m hg;rcases key g b e m hg with⟨rfl,rfl,rfl,rfl⟩ | ⟨a1,a2,a3⟩
   · exact⟨o,o',ee.1,h1,ho.ext hE,fun _=>hb⟩
   · obtain⟨o1,o2,q1,q2,q3,q4⟩:=H.obj g b e m a2;exact⟨o1,o2,by rw [ee.2 g a1];exact q1,by rw [h2 b a3];exact q2,q3.ext hE,q4⟩
 · exact⟨h4.trans H.below.os,h5.trans H.below.tape,h6.trans H.below.output,by rw [h3];exact H.below.size,fun k hk=>by rw [h2 k (by omega)];exact H.below.block k hk⟩
theorem ayS (arr:Array Z)(l':ZZE)(off:Nat)(Ig:off+l'.length≤arr.size):
 (List.take off arr.toList++l'++List.drop (off+l'.length) arr.toList).toArray.size=arr.size∧
 ∀p:Nat,(List.take off arr.toList++l'++List.drop (off+l'.length) arr.toList).toArray[p]? =if p<off then arr[p]? else if p<off+l'.length then l'[p-off]? else arr[p]? :=by
 refine⟨by simp;omega,fun p=>?_⟩;simp only [List.getElem?_toArray,List.getElem?_append,za3,zaG,List.getElem?_take,List.getElem?_drop,Array.getElem?_toList,Array.length_toList];have hm:min off arr.size=off:=by omega
 rw [hm]
 by_cases q1:p<off
 · simp [q1,show p<off+l'.length by omega]
 · by_cases q2:p<off+l'.length
   · simp [q1,q2]
   · simp only [q1,q2,if_false]
     congr 1;omega
theorem LR.ayT {l l'}(hl:LR φ l l')(w4:∀v∈l,iA v=true):∀v∈l',v.oneCell'=true:=by
 intro v' pJ;have hlen:=hl.length;obtain⟨j,hj⟩:=zaV pJ;have Mh:j<l.length:=by rw [hlen];exact(List.getElem?_eq_some_iff.1 hj).1
 obtain⟨u,hu,hr⟩:=LR.get hl j _ (zab Mh);rw [hj]at hu;cases hu;exact hr.iA (w4 _ (zbl Mh))
theorem alL {c:Call}{t u e' eu:TypeId}{i:TypeInfo}{z:Z}{p p' q':Z}{n:Nat}{xs tO:ZZE}(dT:∀{v':Z}{w':World},(Builtin.append_ c.argTypes o.type #[p',q']).run P w= .ok v' w'→(execOp ρ o).run P w= .ok (.value v') w')
 (h0:c.argTypes[0]? =some t) (h1:c.argTypes[1]? =some u) (ht:P.underlying t=some (.slice e')) (hu:P.underlying u=some (.slice eu)∨P.underlying u=some .string)
 (hi:P.info? e'=some i) (hz:i.zero=some z) (ES:i.bytes≤65536) (r7:z.cells.size=i.size) (je:0<i.size) (H:HR P w0 φ h w) (hr:VR φ p p') (vf:xs.length=n*i.size) (yO:LR φ xs tO)
 (hlen:(Builtin.lenOf q').run P w= .ok n w) (yP:∀w',w'.heap=w.heap→(Builtin.firstCells i.size n q').run P w'= .ok tO.toArray w')
 (e2:pO p (HY h e' i.size n xs k) (HZ h e' i.size n xs k)=true):PR P w0 φ h ((execOp ρ o).run P w) fun v h'=>k v h'=true:=by
 have aI6:=yO.length;have hbound:∀m,m≤1048576→m*i.bytes≤140737488355328:=fun m hm=>zay (Nat.mul_le_mul hm ES) (by decide)
 rcases wZ e2 with⟨l0,c0,aM,e3⟩ | ⟨a,len,cap,aM,e3⟩<;>subst aM
 · obtain⟨rfl,rfl,hx⟩:=hr.yj;unfold HY at e3
   by_cases hn:n=0
   · subst hn;rw [qh rfl,zam]at e3;have pK:tO=[]:=zbe (by omega);subst pK;exact .same H (dT (by rw [hx];exact UJ ht hu hi h0 h1 (a:=none) hlen (yP w rfl) rfl (by omega))) .qW e3
   · rw [jt hn,zak]at e3;obtain⟨HG,e4⟩:=dX e3;have HG:=zaa HG;obtain⟨w4,cc,bU,g1,g2,g3⟩:=Aj e4;rw [dG]at g3;obtain⟨nc,q1,q2⟩:=UK (P:=P) (ty:=o.type) ht hu hi hz h0 h1 (a:=none) (sLen:=0) (sCap:=0) (olds:=[]) hlen yP (fun w' _=>by simp [Builtin.firstCells]) (by omega) (by rw [zav];exact hbound n HG) (by omega);rw [←hx]at q2;simp only [zav,zaU]at q1 q2;exact PR.UL (o:=0) H je r7 yO vf q1 (fun j v hj=>by rw [zav];exact g1 j v hj) (by rw [zav];exact g2) g3 (dT q2)
 · obtain⟨a',eX,hx,hs,lO⟩:=hr.vD
   have Uo:len≤eX:=by
    rcases lO with⟨_,h2,h3,_⟩ | ⟨_,_,_,h3,_⟩<;>omega
   have eU:0<eX→AtR φ a a':=by
    intro hp;rcases lO with⟨_,h2,h3,h4⟩ | ⟨_,_,_,h3,h4⟩
    · exact h4 (by omega)
    · exact(h4 hp).1
   unfold HZ at e3
   by_cases hn:n=0
   · subst hn;rw [qh rfl,zam]at e3;have pK:tO=[]:=zbe (by omega);subst pK;refine .same H (dT (by rw [hx];exact UJ ht hu hi h0 h1 (a:=some a') hlen (yP w rfl) rfl (by omega))) ?_ e3;exact .sl _ _ _ _ _ hs lO
   · rw [jt hn,zak,dG]at e3;obtain⟨MD,e4⟩:=dX e3;have MD:len+n≤1048576:=zaa MD
     have hold:∀{lo fx:Nat}{ty:TypeId}{tu:Bool}{cc:NT Z},h.ob.get a.block=some (.cells lo fx ty tu cc)→lo≤a.off→a.off+len*i.size≤fx→
      ∃l l',l.length=len*i.size∧(∀j v,l[j]? =some v→cc.get (a.off+j)=some v)∧LR φ l l'∧∀w',w'.heap=w.heap→(Builtin.firstCells i.size len (.slice (some a') len eX)).run P w'= .ok l'.toArray w':=by
      intro lo fx ty tu cc g1 g2 g3
      by_cases o3:len=0
      · subst o3;exact⟨[],[],by simp,fun j v hj=>by simp at hj,.nil,fun w' _=>by simp [Builtin.firstCells,loadCells,loadCellsFrom]⟩
      · exact H.ayQ (P:=P) hs (eU (by omega)) g1 _ g2 g3
     cases hb:Nat.ble bQ cap with
     | true=>
      rw [hb,zam]at e4;have hb:=zaa hb;unfold Tk at e4;obtain⟨UM,e5⟩:=dX e4;have UM:cap=bQ+i.size:=zar UM;obtain⟨lo,fx,ty,tu,cc,g1,e6⟩:=AM e5;obtain⟨g2,e7⟩:=dX e6;simp only [zae]at g2;obtain⟨⟨⟨⟨g2,g3⟩,g4⟩,g5⟩,g6⟩:=g2;subst g2;obtain rfl:=zar g3;have g4:=zaa g4;have g5:a.off+len*i.size≤fx:=zaa g5;have w4:=TY _ g6;obtain⟨ob1,k1,e8⟩:=uQ e7;rw [dG]at e8;obtain⟨c2,e9,k2,k3⟩:=TV _ e8;rw [dG]at e9;obtain⟨ob2,k4,UN⟩:=B8 e9;obtain⟨ol,ol',m1,m2,m3,m4⟩:=hold g1 g4 g5;have H1:=H.kill (P:=P) (w:=w) (h':=⟨h.nx,ob1⟩) hs k1 rfl;have E1:Ext h.nx φ (φ.put a.block .dead):=aY.Tc φ _ _ hs
      have ayU:∀j v,(ol++xs)[j]? =some v→c2.get (a.off+j)=some v:=by
       intro j v hj;rw [List.getElem?_append]at hj;split at hj
       · rename_i cy;rw [k3 _ (.inl (by show a.off+j<a.off+len*i.size;omega))];exact m2 j v hj
       · have:=k2 _ v hj;rw [←this];congr 1;show a.off+j=a.off+len*i.size+(j-ol.length);omega
      have ME:(ol++xs).length=(len+n)*i.size:=by rw [zaG,m1,vf,zaR]
      have ee:(⟨h.nx,ob1⟩:AH).ob.mU h.nx (some (.cells a.off (a.off+(ol++xs).length) ty true c2)) ob2:=by
       rw [ME];exact k4
      have hLR:LR (φ.put a.block .dead) (ol++xs) (ol'++tO):=LR.append (LR.ext E1 yO) (LR.ext E1 m3)
      by_cases vg:len+n≤eX
      · -- in place
        obtain⟨sz,q1,q2,q3,q4⟩:∃sz,cap=bQ+sz∧0<sz∧len≤eX∧(0<eX→AtR φ a a'∧∀b d n,φ a.block=some (.live b d n)→a'.off+eX*sz≤n):=by
         rcases lO with⟨h2,_⟩ | h2
         · omega
         · exact h2
        have ayV:sz=i.size:=by omega
        subst ayV;obtain⟨Ma,hbd⟩:=q4 (by omega);obtain⟨B,d,arr,fr,v1,v2,v3,v4,v5,v6,v7,v8,v9⟩:=H.at hs Ma g1;obtain rfl:=v9 rfl;have hbd:=hbd _ _ _ v1;have hmul:(len+n)*i.size≤eX*i.size:=Nat.mul_le_mul vg (zad _);have aI7:(len+n)*i.size=len*i.size+n*i.size:=zaR _ _ _;have Ig:a'.off+len*i.size+tO.length≤arr.size:=by omega
        have mV:=run_storeCells_at P B (a'.off+len*i.size) ty tO 0 arr w v5 (by simpa using Ig) (LR.ayT yO w4);simp only [Nat.add_zero]at mV;obtain⟨x1,x2⟩:=ayS arr tO (a'.off+len*i.size) Ig;generalize hX:(List.take (a'.off+len*i.size) arr.toList++tO++List.drop (a'.off+len*i.size+tO.length) arr.toList).toArray=X at mV x1 x2;have SK:a'.add (len*i.size)=⟨B,a'.off+len*i.size,none⟩:=by rw [si a' v4,v2]
        have MG:=UJ (P:=P) (ty:=o.type) ht hu hi h0 h1 (a:=some a') (sLen:=len) (sCap:=eX) hlen (yP w rfl) (by simp only [];rw [SK];exact mV) vg;rw [←hx]at MG
        have hor:OR P (φ.put a.block .dead) d arr.size (.cells a.off (a.off+(ol++xs).length) ty true c2) (.cells X ty (0,0)):=by
         refine .cells _ _ _ _ _ _ _ _ _ (fun _=>rfl) (by omega) x1.symm fun p p1 p2=>?_;rw [ME]at p2;rw [x2]
         by_cases hp:p<a.off+len*i.size
         · obtain⟨v,v',y1,y2,y3⟩:=v7 p (by omega) (by omega);exact⟨v,v',by rw [k3 p (.inl hp)];exact y1,by rw [if_pos (by omega)];exact y2,VR.ext E1 y3⟩
         · obtain⟨j,rfl⟩:∃j,p=a.off+len*i.size+j:=⟨p-(a.off+len*i.size),by omega⟩;have hj:j<xs.length:=by omega
           obtain⟨y,y1,y2⟩:=LR.get yO j _ (zab hj);refine⟨xs[j],y,k2 j _ (zab hj),?_,VR.ext E1 y2⟩;rw [if_neg (by omega),if_pos (by omega),show a.off+len*i.size+j-d-(a'.off+len*i.size)=j by omega];exact y1
        obtain⟨r1,r2⟩:=H1.ayR (P:=P) (f:=h.nx) (B:=B) (h':=⟨h.nx+1,ob2⟩) (w':=w.setRow B X) (by rw [aY.mi _ _ (fun e=>hs (by rw [←e];exact H.fresh _ (zad _)))];exact H.fresh _ (zad _))
         (fun g b' d' n' hg hbB=>by
          by_cases hga:g=a.block
          · subst hga;rw [aY.me]at hg;cases hg
          · rw [aY.mi _ _ hga]at hg;subst hbB;exact hga (H.inj g a.block b' d' d n' arr.size (v8 rfl) hg v1)) ee (by simp) (by simp) h.nx (zad _) hor (v8 rfl) (setRow_heap w B arr X ty (0,0) v5) (fun k hk=>by
          unfold World.setRow;simp only [zbA];rw [if_neg (by omega)]) (by simp) rfl rfl rfl
        refine⟨_,_,_,_,_,.inl (dT MG),UN,E1.trans r2 (zad _),by simp,.sl _ _ _ _ _ (by simp [aY.put]) (.inr ⟨i.size,UM,je,vg,fun _=>⟨fun b d' m hl=>?_,fun b d' m hl=>?_⟩⟩),r1⟩
        · simp only [aY.me]at hl;cases hl;exact⟨v2,v3,v4⟩
        · simp only [aY.me]at hl;cases hl;exact hbd
      · -- ayW
        obtain⟨nc,q1,q2⟩:=UK (P:=P) (ty:=o.type) ht hu hi hz h0 h1 (a:=some a') (sLen:=len) (sCap:=eX) hlen yP m4 (by omega) (hbound _ MD) (by omega);rw [←hx]at q2;have:=PR.UL (P:=P) (w0:=w0) (o:=a.off) H1 je r7 hLR ME q1 ayU ee (by rw [UM]at UN;exact UN) (dT q2);obtain⟨v',w',v,h',φ',r1,r2,r3,r4,r5,r6⟩:=this;exact⟨v',w',v,h',φ',r1,r2,E1.trans r3 (zad _),r4,r5,r6⟩
     | false=>
      rw [hb,zak]at e4;have ly:cap<bQ:=by rw [B6]at hb;simpa using hb
      obtain⟨LC,adV⟩:eX=cap∧(0<cap→AtR φ a a'):=by
       rcases lO with⟨_,h2,_,h3⟩ | ⟨sz,h2,_⟩
       · exact⟨h2,h3⟩
       · omega
      cases qn:Nat.ble (Nat.add len n) cap with
      | true=>
       rw [qn,zam,dG]at e4;have vg:len+n≤cap:=zaa qn;obtain⟨lo,fx,ty,cc,cc',bU,g1,g2,g3,g4,g5,g6,g7,g8⟩:=abl e4;have Ma:=(adV (by omega)).add (len*i.size);obtain⟨w',q1,q2,_⟩:=H.write (P:=P) (a:=⟨a.block,a.off+len*i.size,none⟩) hs Ma g1 g2 g3 yO g4 g5 g6 g7;have MG:=UJ (P:=P) (ty:=o.type) ht hu hi h0 h1 (a:=some a') (sLen:=len) (sCap:=eX) hlen (yP w rfl) q1 (by omega);rw [←hx]at MG;exact⟨_,_,_,_,_,.inl (dT MG),g8,Ext.refl _ _,zad _,.sl _ _ _ _ _ hs (.inl ⟨ly,LC,vg,adV⟩),q2⟩
      | false=>
       rw [qn,zak]at e4;have aI8:¬(len+n≤cap):=by rw [B6]at qn;simpa using qn
       by_cases o3:len=0
       · subst o3;rw [qh rfl,zam]at e4;obtain⟨w4,cc,bU,g1,g2,g3⟩:=Aj e4;rw [dG]at g3;obtain⟨nc,q1,q2⟩:=UK (P:=P) (ty:=o.type) ht hu hi hz h0 h1 (a:=some a') (sLen:=0) (sCap:=eX) (olds:=[]) hlen yP (fun w' _=>by simp [Builtin.firstCells,loadCells,loadCellsFrom]) (by omega) (hbound _ MD) (by omega);rw [←hx]at q2;simp only [zav,zaU]at q1 q2;refine PR.UL (o:=0) H je r7 yO vf q1 (fun j v hj=>by rw [zav];exact g1 j v hj) (by rw [zav];exact g2) ?_ (dT q2);rw [show Nat.add 0 n=n from zav n]at g3;exact g3
       · rw [jt o3,zak]at e4;obtain⟨lo,fx,ty,tu,cc,ol,g1,g2,g3,g4,g5,g6⟩:=B7 e4;have e5:=Ah _ _ g6;obtain⟨w4,c2,bU,k1,k2,k3⟩:=Aj e5;rw [dG]at k3;obtain⟨ol',m3,m4⟩:=H.cells (P:=P) hs (adV (by omega)) g1 g2 (by rw [g4];exact g3) g5;rw [g4]at m4;obtain⟨nc,q1,q2⟩:=UK (P:=P) (ty:=o.type) ht hu hi hz h0 h1 (a:=some a') (sLen:=len) (sCap:=eX) (olds:=ol') hlen yP (fun w' hw=>by simp only [Builtin.firstCells];exact m4 w' hw) (by omega) (hbound _ MD) (by omega);rw [←hx]at q2;have ME:(ol++xs).length=(len+n)*i.size:=by rw [zaG,g4,vf,zaR];rfl
         exact PR.UL (o:=0) H je r7 (LR.append yO m3) ME q1 (fun j v hj=>by rw [zav];exact k1 j v hj) (by rw [zav];exact k2) k3 (dT q2)
theorem avN {c s x t u e' eu i z}(ho:o.op= .call c)(hc:c.callee= .builtin .append)(ha:c.args= #[s,x])(h0:c.argTypes[0]? =some t)(h1:c.argTypes[1]? =some u)(ht:P.underlying t=some (.slice e'))(hu:P.underlying u=some (.slice eu))
 (hi:P.info? e'=some i) (hz:i.zero=some z) (ES:i.bytes≤65536) (r7:z.cells.size=i.size) (je:0<i.size) (H:HR P w0 φ h w) (hv:LR φ vs ([s,x].map ρ)) (e:ako e' i.size z.cells.toList vs h k=true):PR P w0 φ h ((execOp ρ o).run P w) fun v h'=>k v h'=true:=by
 obtain⟨p,q,aM,e1⟩:=lx e;clear e;subst aM;have e:=e1;clear e1
 obtain⟨p',q',hp,hr,hq⟩:=hv.two
 simp at hp;obtain⟨e1,e2⟩:=hp;subst e1 e2
 have dT:∀{v':Z}{w':World},(Builtin.append_ c.argTypes o.type #[ρ s,ρ x]).run P w= .ok v' w'→(execOp ρ o).run P w= .ok (.value v') w':=by
  intro v' w' hh
  rw [qj ho hc]
  simp [builtin,ha,hh]
 obtain⟨n,xs,tO,e1,vf,yO,hlen,yP⟩:=ayN (P:=P) H hq e
 obtain⟨_,e2⟩:=dX e1
 exact alL (p:=p) (p':=ρ s) (q':=ρ x) dT h0 h1 ht (.inl hu) hi hz ES r7 je H hr vf yO hlen yP e2
end
open Go.MapKept (run_findKey sameBits_self IsKey)
section
variable {P:Program}{w0 w:World}{φ:aY}{h:AH}{ρ:Operand→Value}{o:Oper}{vs:List Value}{k:KV}
theorem auJ {c x y}(ho:o.op= .call c)(hc:c.callee= .builtin .max)(ha:c.args= #[x,y])(H:HR P w0 φ h w)(hv:LR φ vs ([x,y].map ρ))(e:abj vs h k=true):PR P w0 φ h ((execOp ρ o).run P w) fun v h'=>k v h'=true:=by
 obtain⟨p,q,aM,e1⟩:=lx e;clear e;subst aM;have e:=e1;clear e1;obtain⟨p',q',hp,hr,hq⟩:=hv.two;simp at hp;obtain⟨e1,e2⟩:=hp;subst e1 e2;obtain⟨kx,a,aM,e1⟩:=tt e;clear e;subst aM;have e:=e1;clear e1;obtain⟨ky,b,aM,e1⟩:=tt e;clear e;subst aM;have e:=e1;clear e1;obtain⟨hk,e1⟩:=dX e;clear e;obtain rfl:=uO hk;rw [Hw]at e1;have hx:=hr.lj;have hy:=hq.lj
 have dT:(execOp ρ o).run P w= .ok (.value (.int kx (if b > a then b else a))) w:=by
  rw [qj ho hc];simp [builtin,ha,hx,hy,run_max_int2]
 refine .same H dT (.int _ _) ?_
 by_cases uP:a<b
 · rw [if_pos uP];simpa [uP]using e1
 · rw [if_neg uP];simpa [uP]using e1
theorem auK {c x y}(ho:o.op= .call c)(hc:c.callee= .builtin .min)(ha:c.args= #[x,y])(H:HR P w0 φ h w)(hv:LR φ vs ([x,y].map ρ))(e:abk vs h k=true):PR P w0 φ h ((execOp ρ o).run P w) fun v h'=>k v h'=true:=by
 obtain⟨p,q,aM,e1⟩:=lx e;clear e;subst aM;have e:=e1;clear e1;obtain⟨p',q',hp,hr,hq⟩:=hv.two;simp at hp;obtain⟨e1,e2⟩:=hp;subst e1 e2;obtain⟨kx,a,aM,e1⟩:=tt e;clear e;subst aM;have e:=e1;clear e1;obtain⟨ky,b,aM,e1⟩:=tt e;clear e;subst aM;have e:=e1;clear e1;obtain⟨hk,e1⟩:=dX e;clear e;obtain rfl:=uO hk;rw [Hw]at e1;have hx:=hr.lj;have hy:=hq.lj
 have dT:(execOp ρ o).run P w= .ok (.value (.int kx (if b<a then b else a))) w:=by
  rw [qj ho hc];simp [builtin,ha,hx,hy,run_min_int2]
 refine .same H dT (.int _ _) ?_
 by_cases uP:b<a
 · rw [if_pos uP];simpa [uP]using e1
 · rw [if_neg uP];simpa [uP]using e1
theorem auL {c d s t e' i}(ho:o.op= .call c)(hc:c.callee= .builtin .copy)(ha:c.args= #[d,s])(h0:c.argTypes[0]? =some t)(ht:P.underlying t=some (.slice e'))
 (hi:P.info? e'=some i) (H:HR P w0 φ h w) (hv:LR φ vs ([d,s].map ρ)) (e:aja i.size vs h k=true):PR P w0 φ h ((execOp ρ o).run P w) fun v h'=>k v h'=true:=by
 obtain⟨p,q,aM,e1⟩:=lx e;clear e;subst aM;have e:=e1;clear e1;obtain⟨p',q',hp,hr,hq⟩:=hv.two;simp at hp;obtain⟨e1,e2⟩:=hp;subst e1 e2
 have dT:∀{v':Z}{w':World},(Builtin.copy_ c.argTypes o.type #[ρ d,ρ s]).run P w= .ok v' w'→(execOp ρ o).run P w= .ok (.value v') w':=by
  intro v' w' hh;rw [qj ho hc];simp [builtin,ha,hh]
 have eU:∀{a a':Addr}{len cap eX:Nat},Ae φ a a' len cap eX→0<len→AtR φ a a':=by
  intro a a' len cap eX lO hp;rcases lO with⟨_,h2,_,h4⟩ | ⟨_,_,_,h3,h4⟩
  · exact h4 (by omega)
  · exact(h4 (by omega)).1
 rcases wZ e with⟨l0,c0,aM,e3⟩ | ⟨a,len,cap,aM,e3⟩<;>clear e<;>subst aM
 · obtain⟨rfl,rfl,hx⟩:=hr.yj;rcases wZ e3 with⟨l1,c1,aM,e4⟩ | ⟨b,vC,auM,aM,e4⟩<;>subst aM
   · obtain⟨rfl,rfl,hy⟩:=hq.yj;exact .same H (dT (by rw [hx,hy];simp [Builtin.copy_,h0,run_underlying ht,Builtin.lenOf,nJ hi,Builtin.firstCells,goInt])) (.int _ _) e4
   · obtain⟨b',auN,hy,_,_⟩:=hq.vD;exact .same H (dT (by rw [hx,hy];simp [Builtin.copy_,h0,run_underlying ht,Builtin.lenOf,nJ hi,Builtin.firstCells,goInt,loadCells,loadCellsFrom])) (.int _ _) e4
 · obtain⟨a',eX,hx,hs,lO⟩:=hr.vD;rcases wZ e3 with⟨l1,c1,aM,e4⟩ | ⟨b,vC,auM,aM,e4⟩<;>subst aM
   · obtain⟨rfl,rfl,hy⟩:=hq.yj;exact .same H (dT (by rw [hx,hy];simp [Builtin.copy_,h0,run_underlying ht,Builtin.lenOf,nJ hi,Builtin.firstCells,goInt,storeCells])) (.int _ _) e4
   · obtain⟨b',auN,hy,Ag,auO⟩:=hq.vD;rw [dG]at e4
     have auP:(bif Nat.ble vC len then vC else len)=Nat.min vC len:=by
      rw [B6]
      by_cases hle:vC≤len
      · simp [hle,Nat.min_eq_left hle,Nat.min_def]
      · simp [hle,Nat.min_def]
     rw [auP]at e4
     by_cases hn:Nat.min vC len=0
     · rw [hn,qh rfl,zam]at e4;exact .same H (dT (by rw [hx,hy];simp [Builtin.copy_,h0,run_underlying ht,Builtin.lenOf,nJ hi,Builtin.firstCells,goInt,hn,loadCells,loadCellsFrom,storeCells])) (.int _ _) e4
     · rw [jt hn,zak]at e4;have hp1:0<vC:=by have:=Nat.min_le_left vC len;simp only [Nat.min_def]at hn this;split at hn<;>omega
       have hp2:0<len:=by simp only [Nat.min_def]at hn;split at hn<;>omega
       obtain⟨lo,fx,ty,tu,cc,l,g1,g2,g3,g4,g5,g6⟩:=B7 e4;obtain⟨l',q1,q2⟩:=H.cells (P:=P) Ag (eU auO hp1) g1 g2 (by rw [g4];exact g3) g5;obtain⟨lo2,jK,ty2,c2,c2',bU,k1,k2,k3,k4,k5,k6,k7,k8⟩:=abl g6;obtain⟨w',r1,r2,_⟩:=H.write (P:=P) hs (eU lO hp2) k1 k2 k3 q1 k4 k5 k6 k7;have q2':=q2 w rfl;rw [g4]at q2';have auQ:(loadCells b' (Nat.min vC len*i.size)).run P w= .ok l'.toArray w:=q2';refine⟨_,w',_,_,φ,.inl (dT ?_),k8,Ext.refl _ _,zad _,.int _ _,r2⟩;rw [hx,hy];simp only [Builtin.copy_,h0,Builtin.lenOf];simp [run_underlying ht,nJ hi,Builtin.firstCells,goInt,auQ,r1]
theorem LR.SE {φ l l'}(h:LR φ l l'):∀n,LR φ (oa n l) (oa n l')
 | 0=>.nil
 | n+1=>LR.append (LR.SE h n) h
theorem ajb:∀(n:Nat){zero:ZZE}{k:ZZE→Bool},Hx n zero k=true→k (oa n zero)=true
 | 0,zero,k,h=>h
 | n+1,zero,k,h=>Ah _ _ (ajb n (show Hx n zero (fun l=>mc zero l k)=true from h))
theorem ajc (z:ZZE):∀n,(oa n z).length=n*z.length
 | 0=>by simp [oa]
 | n+1=>by simp [oa,ajc z n,zaR];omega
theorem ajd (z:ZZE)(hz:0<z.length):∀(n j:Nat),j<n*z.length→(oa n z)[j]? =z[j % z.length]?
 | 0,j,hj=>by omega
 | n+1,j,hj=>by
  simp only [oa,List.getElem?_append]
  by_cases KX:j<z.length
  · rw [if_pos KX,Nat.mod_eq_of_lt KX]
  · rw [if_neg KX,ajd z hz n _ (by rw [zaR]at hj;omega),Nat.mod_eq_sub_mod (by omega:j≥z.length)]
theorem abm (z:Array Z)(hz:0<z.size)(n:Nat):(madeCells z (n*z.size)).toList=oa n z.toList:=by
 apply List.ext_getElem?;intro j
 by_cases hj:j<n*z.size
 · rw [ajd z.toList (by simpa using hz) n j (by simpa using hj)];have hm:j % z.size<z.size:=Nat.mod_lt _ hz;simp [madeCells,hj,hm]
 · rw [zba (by simp [madeCells];omega),zba (by rw [ajc];simpa using by omega)]
theorem auR {t e' x y i z}(ho:o.op= .makeSlice t x y)(ht:P.underlying t=some (.slice e'))(hi:P.info? e'=some i)(hz:i.zero=some z)(jd:Hy z=true)(ES:i.bytes≤65536)(r7:z.cells.size=i.size)(je:0<i.size)
 (H:HR P w0 φ h w) (hv:LR φ vs ([x,y].map ρ)) (e:aje e' i.size z.cells.toList vs h k=true):PR P w0 φ h ((execOp ρ o).run P w) fun v h'=>k v h'=true:=by
 obtain⟨p,q,aM,e1⟩:=lx e;clear e;subst aM;have e:=e1;clear e1;obtain⟨p',q',hp,hr,hq⟩:=hv.two;simp at hp;obtain⟨e1,e2⟩:=hp;subst e1 e2;obtain⟨kl,l,aM,e1⟩:=Ai e;clear e;subst aM;have e:=e1;clear e1;obtain⟨kc,c,aM,e1⟩:=Ai e;clear e;subst aM;have e:=e1;clear e1;obtain⟨g,e1⟩:=dX e;simp only [zae]at g;obtain⟨⟨g1,g2⟩,g3⟩:=g;have g1:=zaa g1;have g2:=zaa g2;have e2:=ajb _ e1;obtain⟨w4,cc,bU,k1,k2,k3⟩:=Aj e2
 have hb:(i.bytes:Int)*(Int.ofNat c)≤281474976710656:=by
  have:i.bytes*c≤65536*65536:=Nat.mul_le_mul ES g2;simp only [za0];rw [←Int.natCast_mul];omega
 have dT:=run_make (P:=P) w t e' i z ht hi hz kl kc (Int.ofNat l) (Int.ofNat c) (by simp) (by simp only [za0];omega) hb (by simp only [za0];omega)
 have hm:madeCells z.cells (c*i.size)=(oa c z.cells.toList).toArray:=by
  apply za8;rw [←r7,abm z.cells (by omega) c]
 have hc:(Int.ofNat c).toNat=c:=rfl;have hl:(Int.ofNat l).toNat=l:=rfl;rw [hc,hl,hm]at dT;obtain⟨r1,r2⟩:=PR.newRow H (LR.SE (VR.cells (w7 (φ:=φ) jd)) c) k1 k2;refine⟨.slice (some ⟨w.heap.size,0,none⟩) l c,_,_,_,_,.inl (by simp only [execOp,ho,hr.lj,hq.lj];simp only [Sem.run_bind,dT,Result.andThen_ok,Sem.run_pure]),k3,r2,by simp,.sl _ _ _ _ _ (by simp [aY.put]) (.inl ⟨by unfold bQ;omega,rfl,g1,fun _ b d n hl=>?_⟩),r1⟩;simp only [aY.me]at hl;cases hl;exact⟨rfl,rfl,rfl⟩
theorem Hz {d kc a b r}(hk:oc d=some kc)(he:qk kc a b=some r):Instr.sameNow d a b=some r:=by
 unfold qk at he;split at he<;>first | (cases he;done) | skip
 · rename_i k1 x k2 y;cases ij:jE k1 k2 with
   | false=>rw [ij]at he;cases he
   | true=>
    rw [ij]at he;simp only [zam,zaw]at he;obtain rfl:=uO ij;unfold oc at hk;split at hk<;>first | (cases hk;done) | skip
    subst he;simp [Instr.sameNow,Ak]
 · rename_i x y;simp only [zaw]at he;unfold oc at hk;split at hk<;>first | (cases hk;done) | skip
   subst he;cases x<;>cases y<;>rfl
 · rename_i x y;simp only [zaw]at he;unfold oc at hk;split at hk<;>first | (cases hk;done) | skip
   subst he;simp only [Instr.sameNow,eqStr,beq_toListBytes]
theorem ajf {kc d}(hk:oc d=some kc):∀{es:List (Z×Z×Nat)}{eJ:List MapEntry}{x x':Z}{kk:Option Z→Bool}(i:Nat),ER φ es eJ→VR φ x x'→ET kc es x kk=true→
 (kk none=true∧Instr.findNow d x' eJ i=some none)∨∃v v' j,kk (some v)=true∧VR φ v v'∧Instr.findNow d x' eJ i=some (some (j,v'))
 | _,_,x,x',kk,i,.nil,hx,h=>.inl ⟨h,rfl⟩
 | _,_,x,x',kk,i,.cons a v b e l l' ha hv hb hl,hx,h=>by
  unfold ET at h;split at h
  · rename_i he;obtain⟨rfl,h2⟩:=KY hx ha he;exact .inr ⟨v,e.val,i,h,hv,by simp [Instr.findNow,h2,Hz hk he]⟩
  · rename_i he;obtain⟨h1,h2⟩:=KY hx ha he;rcases ajf hk (i+1) hl hx h with⟨q1,q2⟩ | ⟨v1,v2,j,q1,q2,q3⟩
    · exact .inl ⟨q1,by subst h1;simp [Instr.findNow,h2,Hz hk he,q2]⟩
    · exact .inr ⟨v1,v2,j,q1,q2,by subst h1;simp [Instr.findNow,h2,Hz hk he,q3]⟩
  · cases h
theorem ajg {kc d t x b}(hu:P.underlying t=some d)(hk:oc d=some kc):(Instr.checkKey b 10000 t x).run P w= .ok () w:=by
 rw [show(10000:Nat)=9999+1 from rfl];unfold Instr.checkKey;simp only [Sem.run_bind,run_underlying hu,Result.andThen_ok];unfold oc at hk;split at hk<;>first | (cases hk;done) | skip
 all_goals (cases x<;>rfl)
theorem auS {t kt e' m x kc z ok}(ho:o.op= .lookup t m x ok)(ht:P.underlying t=some (.map kt e'))(hk:(P.underlying kt).bind oc=some kc)(hz:zeroOf P e'=some z)
 (H:HR P w0 φ h w) (hv:LR φ vs ([m,x].map ρ)) (e:abn kc z ok vs h k=true):PR P w0 φ h ((execOp ρ o).run P w) fun v h'=>k v h'=true:=by
 obtain⟨i,hi,hz,jd⟩:=vE hz
 obtain⟨d,hd,KZ⟩:∃d,P.underlying kt=some d∧oc d=some kc:=by
  cases hu:P.underlying kt with
  | none=>simp [hu]at hk
  | some d=>exact⟨d,rfl,by simpa [hu]using hk⟩
 obtain⟨p,q,aM,e1⟩:=lx e;clear e;subst aM;have e:=e1;clear e1;obtain⟨p',q',hp,hr,hq⟩:=hv.two;simp at hp;obtain⟨e1,e2⟩:=hp;subst e1 e2;obtain⟨_,e1⟩:=dX e
 have fin:∀{ov:Option Z}{es:Array MapEntry},SF z ok h k ov=true→
  ((ρ m= .map none∧es= #[])∨∃r cl,ρ m= .map (some r)∧w.heap[r]? =some (.map es cl))→
  ((ov=none∧Instr.findNow d (ρ x) es.toList 0=some none)∨∃v v' j,ov=some v∧VR φ v v'∧Instr.findNow d (ρ x) es.toList 0=some (some (j,v')))→PR P w0 φ h ((execOp ρ o).run P w) fun v h'=>k v h'=true:=by
  intro ov es q1 q2 q3;have Al:∀b,(Instr.checkKey b 10000 kt (ρ x)).run P w= .ok () w:=fun b=>ajg hd KZ
  rcases q3 with⟨rfl,q3⟩ | ⟨v,v',j,rfl,q4,q3⟩
  · have hf:=run_findKey (P:=P) (w:=w) hd q3
    have dT:(execOp ρ o).run P w= .ok (.value (if ok=true then .tuple #[z,.bool false]else z)) w:=by
     rcases q2 with⟨q2,rfl⟩ | ⟨r,cl,q2,q5⟩
     · simp only [execOp,ho,Instr.lookup,Sem.run_bind,run_underlying ht,Result.andThen_ok,q2];simp [Al,hf,yk hi hz]
     · simp only [execOp,ho,Instr.lookup,Sem.run_bind,run_underlying ht,Result.andThen_ok,q2];simp [getObj,Sem.run,q5,Al,hf,yk hi hz]
    cases ok with
    | true=>exact .same H dT (.ko _ _ (.cons _ _ _ _ (w7 jd) (.cons _ _ _ _ (.bool _) .nil))) q1
    | false=>exact .same H dT (w7 jd) q1
  · have hf:=run_findKey (P:=P) (w:=w) hd q3
    have dT:(execOp ρ o).run P w= .ok (.value (if ok=true then .tuple #[v',.bool true]else v')) w:=by
     rcases q2 with⟨q2,rfl⟩ | ⟨r,cl,q2,q5⟩
     · simp only [execOp,ho,Instr.lookup,Sem.run_bind,run_underlying ht,Result.andThen_ok,q2];simp [Al,hf]
     · simp only [execOp,ho,Instr.lookup,Sem.run_bind,run_underlying ht,Result.andThen_ok,q2];simp [getObj,Sem.run,q5,Al,hf]
    cases ok with
    | true=>exact .same H dT (.ko _ _ (.cons _ _ _ _ q4 (.cons _ _ _ _ (.bool _) .nil))) q1
    | false=>exact .same H dT q4 q1
 rcases SG e1 with⟨aM,e2⟩ | ⟨r,aM,e2⟩<;>subst aM
 · exact fin (es:= #[]) e2 (.inl ⟨hr.abo,rfl⟩) (.inl ⟨rfl,rfl⟩)
 · obtain⟨r',hx,hs,qX⟩:=hr.SH;obtain⟨es,cl,g1,g2⟩:=EU e2;obtain⟨dd,n,eJ,_,m2,m3,_⟩:=H.abp hs qX g1;rcases ajf KZ 0 m3 hq g2 with⟨q1,q2⟩ | ⟨v1,v2,j,q1,q2,q3⟩
   · exact fin q1 (.inr ⟨r',cl,hx,m2⟩) (.inl ⟨rfl,q2⟩)
   · exact fin q1 (.inr ⟨r',cl,hx,m2⟩) (.inr ⟨v1,v2,j,rfl,q2,q3⟩)
end
end Go.Ve
namespace Go.Ve
open Go.RowKit
open Go.MapKept (run_findKey bytes_beq)
section
variable {P:Program}{w0 w:World}{φ:aY}{h:AH}{ρ:Operand→Value}{o:Oper}{vs:List Value}{k:KV}
theorem auT {kc a b}(he:qk kc a b=some true):a=b:=by
 unfold qk at he;split at he<;>first | (cases he;done) | skip
 · rename_i k1 x k2 y;cases ij:jE k1 k2 with
   | false=>rw [ij]at he;cases he
   | true=>
    rw [ij]at he;simp only [zam,zaw,Ak,zbg]at he;rw [uO ij,he]
 · rename_i x y;cases x<;>cases y<;>first | rfl | (simp at he)
 · rename_i x y;simp only [zaw,eqStr]at he;rw [←beq_toListBytes]at he;rw [(bytes_beq x y).1 he]
theorem auU {kc x x'}(hx:VR φ x x')(ho:K3 kc x=true):Instr.sameBits 10000 x' x'=true:=by
 rw [show(10000:Nat)=9999+1 from rfl];unfold K3 at ho;split at ho<;>first | (cases ho;done) | skip
 · rw [hx.lj];simp [Instr.sameBits]
 · rw [hx.yi];simp [Instr.sameBits]
 · rw [hx.od];simp [Instr.sameBits,bytes_beq]
theorem ajh {kc d}(hk:oc d=some kc):∀{es:List (Z×Z×Nat)}{eJ:List MapEntry}{x x' y y':Z}{cl:Nat}{kk:List (Z×Z×Nat)→Nat→Bool}(i:Nat),ER φ es eJ→VR φ x x'→VR φ y y'→vF kc es x y cl kk=true→
 ∃HA HB,kk HA HB=true∧((Instr.findNow d x' eJ i=some none∧HB=cl+1∧ER φ HA (eJ++[{key:=x',val:=y',born:=cl}]))∨
  ∃j v' e,Instr.findNow d x' eJ i=some (some (i+j,v'))∧HB=cl∧eJ[j]? =some e∧e.key=x'∧ER φ HA (eJ.modify j fun e=>{e with key:=x',val:=y'}))
 | _,_,x,x',y,y',cl,kk,i,.nil,hx,hy,h=>by
  simp only [vF,dG]at h;exact⟨_,_,h,.inl ⟨rfl,rfl,.cons _ _ _ _ _ _ hx hy rfl .nil⟩⟩
 | _,_,x,x',y,y',cl,kk,i,.cons a v b e l l' ha hv hb hl,hx,hy,h=>by
  unfold vF at h;split at h
  · rename_i he;obtain⟨h1,h2⟩:=KY hx ha he;have hxa:=auT he;refine⟨_,_,h,.inr ⟨0,e.val,e,?_,rfl,rfl,by rw [h2,h1,hxa],?_⟩⟩
    · subst h1;simp [Instr.findNow,h2,Hz hk he]
    · simp only [List.modify_zero_cons];exact .cons _ _ _ _ _ _ hx hy hb hl
  · rename_i he;obtain⟨h1,h2⟩:=KY hx ha he;obtain⟨HA,HB,q1,q2⟩:=ajh hk (i+1) hl hx hy h;rcases q2 with⟨q2,q3,q4⟩ | ⟨j,v',e2,q2,q3,q4,q5,q6⟩
    · refine⟨_,_,q1,.inl ⟨?_,q3,.cons _ _ _ _ _ _ ha hv hb q4⟩⟩;subst h1;simp [Instr.findNow,h2,Hz hk he,q2]
    · refine⟨_,_,q1,.inr ⟨j+1,v',e2,?_,q3,by simpa using q4,q5,?_⟩⟩
      · subst h1;simp [Instr.findNow,h2,Hz hk he,q2];omega
      · simp only [List.modify_succ_cons];exact .cons _ _ _ _ _ _ ha hv hb q6
  · cases h
theorem aji {t kt e' m x y kc}(ho:o.op= .mapUpdate t m x y∨o.op= .insert t m x y)(ht:P.underlying t=some (.map kt e'))(hk:(P.underlying kt).bind oc=some kc)
 (H:HR P w0 φ h w) (hv:LR φ vs ([m,x,y].map ρ)) (e:ajj kc vs h k=true):PR P w0 φ h ((execOp ρ o).run P w) fun v h'=>k v h'=true:=by
 obtain⟨d,hd,KZ⟩:∃d,P.underlying kt=some d∧oc d=some kc:=by
  cases hu:P.underlying kt with
  | none=>simp [hu]at hk
  | some d=>exact⟨d,rfl,by simpa [hu]using hk⟩
 obtain⟨p,q,r,aM,e1⟩:=ajk e;clear e;subst aM;have e:=e1;clear e1;obtain⟨p',q',r',hp,hr,hq,hy⟩:=hv.three;simp at hp;obtain⟨e1,e2,e3⟩:=hp;subst e1 e2 e3;obtain⟨hko,e1⟩:=dX e;have auV:=auU hq hko
 have dT:∀{w':World},(Instr.mapUpdate t (ρ m) (ρ x) (ρ y)).run P w= .ok () w'→(execOp ρ o).run P w= .ok .skip w':=by
  intro w' hh;rcases ho with ho | ho<;>simp [execOp,ho,hh]
 rcases SG e1 with⟨aM,e2⟩ | ⟨r0,aM,e2⟩<;>subst aM
 · cases e2
 · obtain⟨rb,hx,hs,qX⟩:=hr.SH;obtain⟨es,cl,g1,g2⟩:=EU e2;obtain⟨dd,n,eJ,m1,m2,m3,m4⟩:=H.abp hs qX g1;obtain⟨HA,HB,q1,q2⟩:=ajh KZ 0 m3 hq hy g2;obtain⟨bU,k1,k2⟩:=uQ q1;have Al:(Instr.checkKey false 10000 kt (ρ x)).run P w= .ok () w:=ajg hd KZ;have cy:rb<w.heap.size:=(Array.getElem?_eq_some_iff.1 m2).1
   have fin:∀{es3:Array MapEntry},ER φ HA es3.toList→(Instr.mapUpdate t (ρ m) (ρ x) (ρ y)).run P w= .ok () {w with heap:=w.heap.setIfInBounds rb (.map es3 HB)}→PR P w0 φ h ((execOp ρ o).run P w) fun v h'=>k v h'=true:=by
    intro es3 q3 q4;refine⟨undef,_,undef,_,φ,.inr ⟨dT q4,rfl⟩,k2,Ext.refl _ _,zad _,VR.undef _,?_⟩;exact H.nK m1 k1 rfl (.map _ _ _ _ _ q3) m4 (by simp [cy]) (fun k hk=>by simp [Ne.symm hk]) (by simp) rfl rfl rfl
   rcases q2 with⟨q2,rfl,q4⟩ | ⟨j,v',e2,q2,rfl,q4,q5,q6⟩
   · refine fin (es3:=eJ.push {key:=ρ x,val:=ρ y,born:=cl}) (by simpa using q4) ?_;have hf:=run_findKey (P:=P) (w:=w) hd q2;simp [Instr.mapUpdate,run_underlying ht,hx,getObj,setObj,Sem.run,m2,Al,hf]
   · refine fin (es3:=eJ.modify j fun e=>{e with key:=ρ x,val:=ρ y}) (by simpa using q6) ?_;simp only [zav]at q2;have hf:=run_findKey (P:=P) (w:=w) hd q2;have SI:eJ[j]? =some e2:=by simpa using q4
     have mV:(Instr.keyThatStays (ρ x) (ρ x)).run P w= .ok (ρ x) w:=by simp [Instr.keyThatStays,auV]
     simp [Instr.mapUpdate,run_underlying ht,hx,getObj,setObj,Sem.run,m2,Al,hf,SI,q5,mV]
theorem auW {x xt t d z}(ho:o.op= .typeAssert x xt t true)(hu:P.underlying t=some d)(hd:∀m,d≠.interface m)(hz:zeroOf P t=some z)(H:HR P w0 φ h w)(hv:LR φ vs ([x].map ρ))(e:SJ t z vs h k=true):PR P w0 φ h ((execOp ρ o).run P w) fun v h'=>k v h'=true:=by
 obtain⟨i,hi,hz,jd⟩:=vE hz;obtain⟨p,aM,e1⟩:=iU e;clear e;subst aM;have e:=e1;clear e1;obtain⟨p',hp,hr⟩:=hv.one;simp at hp;subst hp;unfold abq at e;have EV:∀v:Z,(execOp ρ o).run P w=((Instr.typeAssert (ρ x) xt t true).run P w).andThen (fun a w'=>.ok (.value a) w'):=by intro _;simp [execOp,ho]
 split at e
 · have hx:ρ x= .nilIface:=by generalize ρ x=X at hr;cases hr;rfl
   refine .same H (v':=.tuple #[z,.bool false]) ?_ (.ko _ _ (.cons _ _ _ _ (w7 jd) (.cons _ _ _ _ (.bool _) .nil))) e;rw [EV undef,hx];simp only [Instr.typeAssert,Sem.run_bind,run_underlying hu,Result.andThen_ok];cases d<;>first | (exact absurd rfl (hd _)) | simp [yk hi hz]
 · rename_i t' v;obtain⟨v',hx,hvv⟩:∃v',ρ x= .iface t' v'∧VR φ v v':=by generalize ρ x=X at hr;cases hr with | iface _ _ v' h=>exact⟨v',rfl,h⟩
   by_cases htt:t'=t
   · subst htt;rw [qh rfl,zam]at e;refine .same H (v':=.tuple #[v',.bool true]) ?_ (.ko _ _ (.cons _ _ _ _ hvv (.cons _ _ _ _ (.bool _) .nil))) e;rw [EV undef,hx];simp only [Instr.typeAssert,Sem.run_bind,run_underlying hu,Result.andThen_ok];cases d<;>first | (exact absurd rfl (hd _)) | simp
   · rw [jt htt,zak]at e;refine .same H (v':=.tuple #[z,.bool false]) ?_ (.ko _ _ (.cons _ _ _ _ (w7 jd) (.cons _ _ _ _ (.bool _) .nil))) e;rw [EV undef,hx];simp only [Instr.typeAssert,Sem.run_bind,run_underlying hu,Result.andThen_ok];cases d<;>first | (exact absurd rfl (hd _)) | simp [htt,yk hi hz]
 · cases e
theorem auX {x t}(ho:o.op= .range t x)(hu:P.underlying t=some .string)(H:HR P w0 φ h w)(hv:LR φ vs ([x].map ρ))(e:ajl vs h k=true):PR P w0 φ h ((execOp ρ o).run P w) fun v h'=>k v h'=true:=by
 obtain⟨p,aM,e1⟩:=iU e;clear e;subst aM;have e:=e1;clear e1;obtain⟨p',hp,hr⟩:=hv.one;simp at hp;subst hp;obtain⟨s,aM,e1⟩:=ql e;clear e;subst aM;have e:=e1;clear e1;obtain⟨bU,h1,h2⟩:=B8 e;obtain⟨g1,g2⟩:=H.newAt (f:=h.nx) (o:=.kP s 0) (o':=.stringIter s 0) (d:=0) (n:=0) (h':=⟨h.nx+1,bU⟩) (H.fresh _ (zad _)) h1.1 (fun g hg _=>h1.2 g hg) (fun g hg=>H.fresh g (by simp only at hg;omega)) (fun g hg=>by rw [h1.2 g (by simp only at hg;omega)];exact H.top g (by simp only at hg;omega)) (by simp) _ (zad _) (.kP _ _ _);refine⟨_,_,_,_,_,.inl ?_,h2,g2,by simp,PR.HC,g1⟩;simp only [execOp,ho,hr.od];simp [run_range_string w t s hu,World.iter]
theorem auY {x}(ho:o.op= .next x true)(H:HR P w0 φ h w)(hv:LR φ vs ([x].map ρ))(e:ajm vs h k=true):PR P w0 φ h ((execOp ρ o).run P w) fun v h'=>k v h'=true:=by
 obtain⟨p,aM,e1⟩:=iU e;clear e;subst aM;have e:=e1;clear e1;obtain⟨p',hp,hr⟩:=hv.one;simp at hp;subst hp;obtain⟨a,aM,e1⟩:=qY e;clear e;subst aM;have e:=e1;clear e1;obtain⟨a',hx,hs,eU⟩:=hr.oZ;obtain⟨h0,e1⟩:=dX e;have h0:=zar h0;obtain⟨s,pos,g1,g2⟩:=auZ e1;obtain⟨b,d,n,o',m1,m2,m3,m4⟩:=H.live hs g1;obtain⟨q1,q2,q3⟩:=eU b d n m1;cases m3;have SK:a'=⟨b,0,none⟩:=by cases a';simp_all
 have cy:b<w.heap.size:=(Array.getElem?_eq_some_iff.1 m2).1;unfold EW at g2;split at g2
 · rename_i c hc
   have jL:pos<s.size:=by
    have:pos<s.data.toList.length:=(List.getElem?_eq_some_iff.1 hc).1;simpa using this
   have fin:∀(c n:Nat) (bU:NT AO),Utf8.decode s pos=(c,n)→h.ob.mU a.block (some (.kP s (pos+n))) bU→k (.tuple #[.bool true,.int .i64 (Int.ofNat pos),.int .i32 (Int.ofNat c)]) ⟨h.nx,bU⟩=true→
    PR P w0 φ h ((execOp ρ o).run P w) fun v h'=>k v h'=true:=fun c n bU abr k1 k2=>by
    refine⟨.tuple #[.bool true,.int .i64 (Int.ofNat pos),.int .i32 (Int.ofNat c)],{w with heap:=w.heap.setIfInBounds b (.stringIter s (pos+n))},_,_,φ,.inl ?_,k2,Ext.refl _ _,zad _,.ko _ _ (.cons _ _ _ _ (.bool _) (.cons _ _ _ _ (.int _ _) (.cons _ _ _ _ (.int _ _) .nil))),?_⟩
    · simp [execOp,ho,hx,SK,Instr.next,getObj,setObj,Sem.run,m2,jL,abr,goInt]
    · exact H.nK m1 k1 rfl (.kP _ _ _) (m4 rfl) (by simp [cy]) (fun k hk=>by simp [Ne.symm hk]) (by simp) rfl rfl rfl
   cases K4:Nat.ble (Nat.succ c.toNat) 128 with
   | true=>
    rw [K4]at g2;have K4:c.toNat<128:=zaa K4;have g3:fN (Nat.succ pos) (fun pos'=>kQ h a.block (some (.kP s pos')) fun h=>fN c.toNat fun n=>k (.tuple ⟨[.bool true,.int .i64 (.ofNat pos),.int .i32 (.ofNat n)]⟩) h)=true:=g2;rw [dG]at g3;obtain⟨bU,k1,k2⟩:=uQ g3;rw [dG]at k2
    have iM:s[pos]'jL=c:=by
     have h3:s.data.toList[pos]'(by simpa using jL)=c:=(List.getElem?_eq_some_iff.1 hc).2;have h4:s.data[pos]'jL=c:=by simpa using h3
     exact h4
    have abr:Utf8.decode s pos=(c.toNat,1):=by
     rw [decode_ascii s pos jL (by rw [iM];exact K4),iM]
    exact fin _ _ bU abr k1 k2
   | false=>
    rw [K4]at g2;have g3:kQ h a.block (some (.kP s (pos+(Utf8.decode s pos).2))) (fun h=>k (.tuple ⟨[.bool true,.int .i64 (.ofNat pos),.int .i32 (.ofNat (Utf8.decode s pos).1)]⟩) h)=true:=g2;obtain⟨bU,k1,k2⟩:=uQ g3;exact fin _ _ bU rfl k1 k2
 · rename_i hc
   have jL:¬pos<s.size:=by
    have:=List.getElem?_eq_none_iff.1 hc;simp at this;have h2:s.size=s.data.size:=rfl;omega
   refine .same H (v':=.tuple #[.bool false]) ?_ (.ko _ _ (.cons _ _ _ _ (.bool _) .nil)) g2;simp [execOp,ho,hx,SK,Instr.next,getObj,setObj,Sem.run,m2,jL]
end
end Go.Ve
namespace Go.Ve
open Go.RowKit
section
variable {P:Program}{w0 w:World}{φ:aY}{h:AH}{ρ:Operand→Value}{o:Oper}{vs:List Value}{k:KV}
theorem ajn (off:Nat):∀(l:ZZE) (n:Nat) (cells:Array Z),off+n+l.length≤cells.size→
 ((l.zipIdx n).foldl (fun(cs:Array Z) (p:Z×Nat)=>cs.setIfInBounds (off+p.2) p.1) cells).toList=cells.toList.take (off+n)++l++cells.toList.drop (off+n+l.length)
 | [],n,cells,_=>by simp
 | v::l,n,cells,h=>by
  simp only [zaE]at h;simp only [List.zipIdx_cons,List.foldl_cons];rw [ajn off l (n+1) _ (by simp;omega)];simp only [Array.toList_setIfInBounds];have:=list_seg_step cells.toList (off+n) v l (by simp;omega);simp only [zaE];rw [←this]
  congr 2
theorem ajo (off:Nat)(v:Z)(cells:Array Z)(h:off+v.cells.size≤cells.size):
 (v.cells.zipIdx.foldl (fun cs (c,j)=>cs.setIfInBounds (off+j) c) cells)=(cells.toList.take off++v.cells.toList++cells.toList.drop (off+v.cells.toList.length)).toArray:=by
 apply za8;rw [←Array.foldl_toList,Array.toList_zipIdx];have:=ajn off v.cells.toList 0 cells (by simpa using h);simpa using this
theorem SL {place}:∀{ps:List (Nat×Nat)}{parts:List (Nat×Z)}{l l' vs:ZZE}{kk:ZZE→Bool},nL l ps vs kk=true→LR φ l l'→LR φ vs (parts.map (·.2))→parts.map (fun p=>place p.1)=ps.map some→
 ∃r r',kk r=true∧LR φ r r'∧Instr.fill place l'.toArray parts=some r'.toArray
 | [],parts,l,l',vs,kk,h,hl,hv,hp=>by
  have hpn:parts=[]:=by cases parts with | nil=>rfl | cons _ _=>simp at hp
  subst hpn;cases vs with
  | cons _ _=>cases h
  | nil=>exact⟨l,l',h,hl,rfl⟩
 | (off,sz)::ps,parts,l,l',vs,kk,h,hl,hv,hp=>by
  cases parts with
  | nil=>simp at hp
  | cons part parts=>
   obtain⟨i,v'⟩:=part;simp only [zaW,List.cons.injEq]at hp;cases vs with
   | nil=>cases h
   | cons v vs=>
    simp only [zaW]at hv;cases hv with | cons _ _ _ _ Am uR=>
    have h':(bif mA (cellsOf v) sz then vG l off (cellsOf v) fun l'=>nL l' ps vs kk else false)=true:=h;cases hle:mA (cellsOf v) sz with
    | false=>rw [hle]at h';cases h'
    | true=>
     rw [hle,zam]at h';have je:=SM _ hle;rw [HD]at je h';obtain⟨h1,h2⟩:=ajp l h';have hc:=VR.cells Am;have ly:=hc.length;have qm:=hl.length
     have au0:LR φ (l.take off++v.cells.toList++l.drop (off+v.cells.toList.length)) (l'.take off++v'.cells.toList++l'.drop (off+v'.cells.toList.length)):=by
      rw [←ly];exact LR.append (hl.drop _) (LR.append hc (hl.take off))
     obtain⟨r,r',q1,q2,q3⟩:=SL h1 au0 uR hp.2;refine⟨r,r',q1,q2,?_⟩;have HE:v'.cells.size=sz:=by rw [←je,ly];simp
     have Ag:¬(off+v'.cells.size > l'.toArray.size):=by simp;rw [HE];omega
     simp only [Instr.fill,hp.1];rw [if_neg (by simp [HE];simp at Ag;rw [HE]at Ag;omega)];rw [ajo off v' l'.toArray (by simp at Ag;simp;omega)];exact q3
def HF:ZZE→ZZE | []=>[] | v::vs=>v.cells.toList++HF vs
theorem ajq:∀ {ss vs kk},EX ss vs kk=true→kk (HF vs)=true∧vs.map (fun v=>v.cells.size)=ss
 | [],vs,kk,h=>by
  obtain⟨rfl,h⟩:=B9 (show a0 vs (kk [])=true from h);exact⟨h,rfl⟩
 | n::ss,vs,kk,h=>by
  cases vs with
  | nil=>cases h
  | cons v vs=>
   obtain⟨h1,h2⟩:=dX (show iff (mA (cellsOf v) n) (EX ss vs fun l=>mc (cellsOf v) l kk)=true from h);obtain⟨h3,h4⟩:=ajq h2;have:=Ah _ _ h3;rw [HD]at this;have hs:=SM _ h1;rw [HD]at hs;exact⟨this,by simp [h4];simpa using hs⟩
theorem ajr:∀ {vs mf},LR φ vs mf→LR φ (HF vs) (HF mf)
 | _,_,.nil=>.nil
 | _,_,.cons _ _ _ _ h hl=>LR.append (ajr hl) (VR.cells h)
theorem LR.EP:∀ {vs mf},LR φ vs mf→vs.map (fun v=>v.cells.size)=mf.map (fun v=>v.cells.size)
 | _,_,.nil=>rfl
 | _,_,.cons _ _ _ _ h hl=>by
  have:=(VR.cells h).length;simp only [zaW,LR.EP hl]
  congr 1
theorem ajs {place}:∀{ps:List (Nat×Nat)}{parts:List (Nat×Z)}{n m:Nat}{done rest:ZZE},Ca n ps m=true→parts.map (fun p=>place p.1)=ps.map some→parts.map (fun p=>p.2.cells.size)=ps.map (·.2)→
 done.length=n→n+rest.length=m→Instr.fill place (done++rest).toArray parts=some (done++HF (parts.map (·.2))).toArray
 | [],parts,n,m,done,rest,hc,hp,hs,hd,hr=>by
  have hpn:parts=[]:=by cases parts with | nil=>rfl | cons _ _=>simp at hp
  subst hpn;simp only [Ca,zbg]at hc;have:rest=[]:=zbe (by omega);subst this;rfl
 | (off,sz)::ps,parts,n,m,done,rest,hc,hp,hs,hd,hr=>by
  cases parts with
  | nil=>simp at hp
  | cons part parts=>
   obtain⟨i,v'⟩:=part;simp only [zaW,List.cons.injEq]at hp hs;simp only [Ca,zae,zbg]at hc;obtain⟨rfl,hc⟩:=hc
   have hm:n+sz≤m:=by
    have:∀(ps:List (Nat×Nat)) (n m:Nat),Ca n ps m=true→n≤m:=by
     intro ps
     induction ps with
     | nil=>intro n m h;simp only [Ca,zbg]at h;omega
     | cons p ps ih=>intro n m h;obtain⟨a,b⟩:=p;simp only [Ca,zae,zbg]at h;have:=ih _ _ h.2;omega
    exact this _ _ _ hc
   have HE:v'.cells.size=sz:=hs.1;simp only [Instr.fill,hp.1];rw [if_neg (by simp [HE];omega)];rw [ajo n v' _ (by simp;omega)]
   have e1:List.take n (done++rest).toArray.toList++v'.cells.toList++List.drop (n+v'.cells.toList.length) (done++rest).toArray.toList=(done++v'.cells.toList)++rest.drop sz:=by
    have vH:v'.cells.toList.length=sz:=by simpa using HE
    simp only [vH];rw [List.take_append_of_le_length (by omega),List.take_of_length_le (by omega)]
    congr 1
    rw [List.drop_append];simp [hd]
   rw [e1];have:=ajs (place:=place) (done:=done++v'.cells.toList) (rest:=rest.drop sz) hc hp.2 hs.2 (by simp;omega) (by simp;omega);rw [this];simp [HF,List.append_assoc]
theorem run_places:∀(fs:List Field),(∀f∈fs,(iN P f.type).isSome=true)→(fs.mapM fun f=>(do pure (f.offset,←sizeOf f.type):Sem (Nat×Nat))).run P w= .ok (fs.map fun f=>(f.offset,(iN P f.type).getD 0)) w
 | [],_=>by simp
 | f::fs,h=>by
  obtain⟨s,hs⟩:=Option.isSome_iff_exists.1 (h f (by simp));obtain⟨i,hi,rfl⟩:=qZ hs;have ih:=run_places fs (fun g hg=>h g (by simp [hg]));rw [List.mapM_cons];simp only [Sem.run_bind,nJ hi,Result.andThen_ok,Sem.run_pure,ih,zaW,hs,Option.getD_some]
theorem mapM_some {α β f}:∀{l:List α}{r:List β},l.mapM f=some r→l.map f=r.map some
 | [],r,h=>by simp at h;subst h;rfl
 | a::l,r,h=>by
  simp only [List.mapM_cons,Option.bind_eq_bind,Option.bind_eq_some_iff]at h;obtain⟨b,hb,r',hr,e⟩:=h;simp at e;subst e;simp [hb,mapM_some hr]
theorem ajt {t:TypeId}{parts:Array (Nat×Operand)}{z:Z}{ps:List (Nat×Nat)}{place:Nat→Option (Nat×Nat)}(hz:zeroOf P t=some z)
 (dT:∀{cells:Array Z},Instr.fill place z.cells (parts.map fun(i,x)=>(i,ρ x)).toList=some cells→(execOp ρ o).run P w= .ok (.value (.agg cells)) w)
 (jL:parts.toList.map (fun p=>place p.1)=ps.map some) (H:HR P w0 φ h w) (hv:LR φ vs ((parts.toList.map (·.2)).map ρ)) (e:(EY z.cells.toList ps).ev vs h k=true):PR P w0 φ h ((execOp ρ o).run P w) fun v h'=>k v h'=true:=by
 obtain⟨i,hi,oe,jd⟩:=vE hz
 have r8:(parts.map fun(i,x)=>(i,ρ x)).toList.map (fun p=>place p.1)=ps.map some:=by
  rw [←jL];simp [zbD]
 have vH:LR φ vs ((parts.map fun(i,x)=>(i,ρ x)).toList.map (·.2)):=by
  simpa [zbD]using hv
 have yn:LR φ z.cells.toList z.cells.toList:=VR.cells (w7 jd);unfold EY at e;split at e
 · rename_i hc;obtain⟨e1,e2⟩:=ajq (show EX (ps.map (·.2)) vs (fun l=>k (.agg ⟨l⟩) h)=true from e);have hf:=ajs (place:=place) (done:=[]) (rest:=z.cells.toList) hc r8 (by rw [←e2,LR.EP vH];simp) rfl (by simp);exact .same H (dT (by simpa using hf)) (.agg _ _ (by simpa using ajr vH)) e1
 · obtain⟨r,r',q1,q2,q3⟩:=SL (place:=place) (show nL z.cells.toList ps vs (fun l=>k (.agg ⟨l⟩) h)=true from e) yn vH r8;exact .same H (dT (by simpa using q3)) (.agg _ _ (by simpa using q2)) q1
theorem au1 {t:TypeId}{parts:Array (Nat×Operand)}{fs:Array Field}{z:Z}{ps:List (Nat×Nat)}(ho:o.op= .build t parts)(hu:P.underlying t=some (.struct fs))(hz:zeroOf P t=some z)(iz:∀f∈fs.toList,(iN P f.type).isSome=true)
    (jL:parts.toList.mapM (fun p=>(fs[p.1]?).bind fun f=>(iN P f.type).map fun s=>(f.offset,s))=some ps) (H:HR P w0 φ h w) (hv:LR φ vs ((parts.toList.map (·.2)).map ρ)) (e:(EY z.cells.toList ps).ev vs h k=true):PR P w0 φ h ((execOp ρ o).run P w) fun v h'=>k v h'=true:=by
  obtain⟨i,hi,oe,jd⟩:=vE hz;refine ajt (place:=fun j=>(fs.map fun f=>(f.offset,(iN P f.type).getD 0))[j]?) hz (fun {cells} hf=>?_) ?_ H hv e
  · have r8:(fs.mapM fun f=>(do pure (f.offset,←sizeOf f.type):Sem (Nat×Nat))).run P w= .ok (fs.map fun f=>(f.offset,(iN P f.type).getD 0)) w:=by
      rw [Array.mapM_eq_mapM_toList];simp only [Sem.run_map,run_places fs.toList iz,Result.andThen_ok]
      congr 1
      apply za8;simp
    simp only [execOp,ho,Instr.build,Sem.run_bind,yk hi oe,Result.andThen_ok,run_underlying hu];rw [r8];simp only [Result.andThen_ok];rw [hf];simp
  · rw [←mapM_some jL];apply List.map_congr_left;intro p hp;simp only [Array.getElem?_map];cases hfp:fs[p.1]? with
    | none=>simp
    | some f=>
      have hm:f∈fs.toList:=by simpa using Array.mem_of_getElem? hfp
      obtain⟨s,hs⟩:=Option.isSome_iff_exists.1 (iz f hm);simp [hs]
theorem au2 {t e':TypeId}{n s:Nat}{parts:Array (Nat×Operand)}{z:Z}(ho:o.op= .build t parts)(hu:P.underlying t=some (.array n e'))(hz:zeroOf P t=some z)(hs:iN P e'=some s)
 (H:HR P w0 φ h w) (hv:LR φ vs ((parts.toList.map (·.2)).map ρ)) (e:(EY z.cells.toList (parts.toList.map fun p=>(p.1*s,s))).ev vs h k=true):PR P w0 φ h ((execOp ρ o).run P w) fun v h'=>k v h'=true:=by
 obtain⟨i,hi,oe,jd⟩:=vE hz;obtain⟨i2,jK,rfl⟩:=qZ hs;refine ajt (place:=fun j=>some (j*i2.size,i2.size)) hz (fun {cells} hf=>?_) ?_ H hv e
 · simp only [execOp,ho,Instr.build,Sem.run_bind,yk hi oe,Result.andThen_ok,run_underlying hu,nJ jK];rw [hf];simp
 · simp [zbD]
theorem au3 {t e' n s parts z}(ho:o.op= .buildSlice t n parts)(hu:P.underlying t=some (.slice e'))(hz:zeroOf P e'=some z)(hs:iN P e'=some s)(hle:n*s≤65536)(r7:z.cells.size=s)(h0:0<s)
    (H:HR P w0 φ h w) (hv:LR φ vs ((parts.toList.map (·.2)).map ρ)) (e:aju e' n (oa n z.cells.toList) (parts.toList.map fun p=>(p.1*s,s)) vs h k=true):PR P w0 φ h ((execOp ρ o).run P w) fun v h'=>k v h'=true:=by
  obtain⟨i,hi,oe,jd⟩:=vE hz;obtain⟨i2,jK,Ag⟩:=qZ hs;rw [hi]at jK;cases jK;subst Ag;have r8:(parts.map fun(i,x)=>(i,ρ x)).toList.map (fun p=>some (p.1*i.size,i.size))=(parts.toList.map fun p=>(p.1*i.size,i.size)).map some:=by simp [zbD]
  have vH:LR φ vs ((parts.map fun(i,x)=>(i,ρ x)).toList.map (·.2)):=by simpa [zbD]using hv
  obtain⟨r,r',q1,q2,q3⟩:=SL (place:=fun j=>some (j*i.size,i.size)) e (LR.SE (VR.cells (w7 (φ:=φ) jd)) n) vH r8;obtain⟨w4,c,bU,k1,k2,k3⟩:=Aj q1;obtain⟨r1,r2⟩:=PR.newRow H q2 k1 k2
  have hm:((Array.range (n*i.size)).map fun j=>z.cells[j % z.cells.size]!)=(oa n z.cells.toList).toArray:=by
    apply za8;have:=abm z.cells (by omega) n;rw [←r7];simpa [madeCells]using this
  have Cb:Instr.fill (fun j=>some (j*i.size,i.size)) (oa n z.cells.toList).toArray (List.map (fun x=>(x.fst,ρ x.snd)) parts.toList)=some r'.toArray:=by simpa using q3
  have dT:(execOp ρ o).run P w= .ok (.value (.slice (some ⟨w.heap.size,0,none⟩) n n)) (w.alloc (.cells r'.toArray e')):=by
    have K5:¬(16777216<n*i.size):=by omega
    simp only [execOp,ho,Instr.buildSlice,Sem.run_bind,run_underlying hu,Result.andThen_ok,nJ hi]
    by_cases tw:n*i.size=0
    · have K6:((Array.range (n*i.size)).map fun j=>(#[]:Array Z)[j % (#[]:Array Z).size]!)=(oa n z.cells.toList).toArray:=by
        rw [←hm,tw];simp [Array.range_zero']
      simp [K5,tw];simp [tw]at K6;rw [K6];rw [Cb];simp [newRow,World.alloc_eq]
    · simp [K5,tw,yk hi oe];rw [hm,Cb];simp [newRow,World.alloc_eq]
  refine⟨_,_,_,_,_,.inl dT,k3,r2,by simp,.sl _ _ _ _ _ (by simp [aY.put]) (.inl ⟨by unfold bQ;have:n≤n*i.size:=Nat.le_mul_of_pos_right n h0;omega,rfl,zad _,fun _ b d m hl=>?_⟩),r1⟩;simp only [aY.me]at hl;cases hl;exact⟨rfl,rfl,rfl⟩
end
end Go.Ve
