/- Part 17: The list of a set: its numbers in order, however the map is gone through. Condition: of the model (at most 1048576 numbers). And more. -/
import Derived.Test.YteeibihhdldjfaaGreatDoorVeP
import Derived.Shelf.Slices.In.SortNone
set_option linter.unusedVariables false
set_option linter.unusedSimpArgs false
namespace Go.Ve
open Go.RowKit Go.Sort
open Classical
noncomputable section
section
variable {c:Cx}{g h:AH}{Γ:List Ob}
theorem asp:∀ {ls xs g},aw (rI .i64 g) ls xs→ls=xs.map fun x=>[vi x]
 | [],[],_,_=>rfl
 | [],_::_,_,A=>by have:=A.1;simp at this
 | _::_,[],_,A=>by have:=A.1;simp at this
 | a::ls,x::xs,g,A=>by
  have h1:a=[vi x]:=A.2 0 a x rfl rfl;rw [h1,zaW,asp (⟨by simpa using A.1,fun i p q hp hq=>A.2 (i+1) p q (by simpa using hp) (by simpa using hq)⟩:aw (rI .i64 g) ls xs)]
theorem aho (xs:ZZD):(xs.map fun x=>[vi x]).flatten=xs.map vi:=by
 induction xs with
 | nil=>rfl
 | cons x xs ih=>simp [ih]
theorem aIf (g:AH)(xs:ZZD):aw (rI .i64 g) (xs.map fun x=>[vi x]) xs:=⟨by simp,fun i a b ha hb=>by
 rw [zaJ,hb]at ha;cases ha;rfl⟩
theorem Sep.sort {P w0 f Q}(kq:Can P f)(hS0:∀p cap w,Calls P f #[.slice p 0 cap] w fun e w'=>e= .returned (.tuple #[])∧w'=w)
 (hS:∀(cS off cap:Nat) (zs:ZZD) (w:World),Holds (Value.int .i64) w cS off zs.toArray→cS<w.heap.size→zs.length<4611686018427387904→
  Calls P f #[.slice (some ⟨cS,off,none⟩) zs.length cap] w fun e w'=>e= .returned (.tuple #[])∧∃n os,w'=grow (putRow (Value.int .i64) (Sort.ahead w n) cS off (jH zs).toArray) os)
 {ty:TypeId}{v:Z}{ls:List (ZZE)}{xs:ZZD}(S:Sep c g h (.sl ty 1 v ls::Γ)) (A:aw (rI .i64 g) ls xs) (LB:xs=[]→v=bJ) (hlen:xs.length≤1048576)
 (K:∀h' wj,Sep c g h' (.sl ty 1 v wj::Γ)→aw (rI .i64 g) wj (jH xs)→Q (.ret (.tuple ⟨[]⟩)) h'):WF P w0 f [v] h Q:=by
 by_cases hx:xs=[]
 · subst hx;obtain rfl:=LB rfl;exact aIg kq hS0 (K h ls S (by rw [show jH []=[]from List.mergeSort_nil];exact A))
 · have hls:=asp A;have ahp:(jH xs).Perm xs:=List.mergeSort_perm xs _;have Fs:(jH xs).length=xs.length:=ahp.length_eq;have O:iu h ty 1 v ls:=S.hZ _ zai
   have get:∀{b lo hi:Nat}{dY:TypeId}{cc:NT Z}{o:Nat},h.ob.get b=some (.cells lo hi dY true cc)→(h.wr b o ((jH xs).map vi)).ob.get b=some (.cells lo hi dY true (nR cc o ((jH xs).map vi))):=fun hg=>by
    unfold AH.wr;rw [hg];simp only [NT.fR,if_true]
   have bH:∀{b lo hi:Nat}{dY:TypeId}{cc:NT Z}{o:Nat},h.ob.get b=some (.cells lo hi dY true cc)→lo≤o→o+xs.length≤hi→(h.wr b o ((jH xs).map vi)).bH b o ((jH xs).map vi):=fun hg h1 h2 i u hu=>by
    have fx:i<(jH xs).length:=by simpa using (List.getElem?_eq_some_iff.1 hu).1
    rw [AH.CE (n:=xs.length) ⟨_,_,_,_,hg,h1,h2⟩ (by simp [Fs]),if_pos ⟨rfl,by omega,by rw [List.length_map];omega⟩,zbF];exact hu
   have fin:∀(b lo hi:Nat) (dY:TypeId) (cc:NT Z) (o n:Nat),v=gD b o xs.length n→h.ob.get b=some (.cells lo hi dY true cc)→lo≤o→o+xs.length≤hi→h.bH b o ls.flatten→
    iu (h.wr b o ((jH xs).map vi)) ty 1 v ((jH xs).map fun x=>[vi x])→WF P w0 f [v] h Q:=fun b lo hi dY cc o n hv hg h1 h2 hr O'=>by
    subst hv;refine aIh kq hS hx hlen hg h1 h2 (by rw [hls,aho]at hr;exact hr) (K _ _ (S.change (.sl ty 1 _ _) (AH.AS S.ok _ _ _) (by rw [AH.rl];exact zad _) (fun f _ hf=>AH.CD h (fun e=>hf (by subst e;simp [Ob.cS,iP]))) O' C6 (fun b' dN=>?_)) (aIf g _));have dN:b'=b:=by simpa [Ob.cS,iP]using dN
    subst dN;exact⟨by rw [AH.rl];exact AH.lt_of_get S.ok hg,.inr (by simp [Ob.cS,iP])⟩
   have qm:ls.length=xs.length:=A.1;cases O with
   | nil=>exact absurd (List.length_eq_zero_iff.1 qm.symm) hx
   | un b o n lo hi cc _ hn hb hg h1 h2 hr hs=>
    rw [qm]at hn;subst hn;refine fin _ _ _ _ _ _ _ rfl hg h1 (by omega) hr (.un b o _ lo hi _ _ (by simp [Fs]) hb (get hg) h1 h2 (by rw [aho];exact bH hg h1 (by omega)) (fun x hx=>?_));obtain⟨y,_,rfl⟩:=List.mem_map.1 hx;rfl
   | kn b o n cap lo hi dY cc _ hn hb hc hg h1 h2 hr hs=>
    rw [qm]at hn;subst hn;refine fin _ _ _ _ _ _ _ rfl hg h1 (by omega) hr (.kn b o _ cap lo hi dY _ _ (by simp [Fs]) hb hc (get hg) h1 h2 (by rw [aho];exact bH hg h1 (by omega)) (fun x hx=>?_));obtain⟨y,_,rfl⟩:=List.mem_map.1 hx;rfl
end
namespace T
open Go.Proofs
theorem aIi:Can PP aiI:=⟨_,Tryz.func107,by kernel_rfl,by kernel_rfl⟩
def JL (x0:ZZD):Option (ZZD):=gu (decide (x0.length≤1048576)) (some x0)
theorem aEQ {w0 g h Q r x0 cA}(M:JL x0=some r)(sg:Sub g h)(ok:h.Ok)(cZ:mI g cA x0)
 (H:∀(g' h':AH) (w1:Z),Sep ⟨g,h,[]⟩ g' h' []→aa (rI .i64) 1 g' w1 r→Q (.ret w1) h'):WF PP w0 Sc [cA] h Q:=by
 obtain⟨hlen,M⟩:=nE M;have e:=zaL M;subst e;have hlen:=zao hlen;refine at1 _ ?_;unfold aiJ;have S:=Sep.start sg ok;refine Sep.range (S.B1 3 1) cZ (fun it k a=>rfl) (fun xs a g1 Γ1=>∃ls,Γ1=[.sl 3 1 a ls]∧aw (rI .i64 g1) ls xs∧(xs=[]→a=bJ)∧xs.Nodup∧∀y∈xs,y∈x0) ⟨[],rfl,.nil,fun _=>rfl,.nil,fun y hy=>by simp at hy⟩ ?_ ?_
 · intro it o k a g1 h1 Γ1 xs x hI wF hx nM S1 hE kk;obtain⟨ls,rfl,A,hn,nd,aM⟩:=hI
   have cy:xs.length+1≤x0.length:=aoG (l:=x::xs) (List.nodup_cons.2 ⟨nM,nd⟩) cZ.sD.nd (fun y hy=>by
    rcases List.mem_cons.1 hy with rfl | hy
    · exact hx
    · exact aM y hy)
   show WP (.x .entry) [it] h1 _;refine hE _ ?_;refine(fk rfl).2 ?_;refine S1.tp [[vi x]] (rn (m:=[vi x]) (l2:=[vi x]) rfl rfl (zaa rfl) rfl rfl) rfl (by decide) (vn rfl tq) (ag rfl rfl) (fun v h S=>?_);have A1:aw ((rI .i64) g1) [[vi x]] [x]:=aw.push aw.nil (show(rI .i64) g1 [vi x] x from rfl);have S:=S.f2;refine S.app (S.rd 1 rfl) (by rw [A.1,A1.1];exact zac (by simp;omega)) (by decide) rfl (nF (rY .i64) A1) (nF (rY .i64) A) (fun v' h S=>?_);have S:=S.f2.t2
   exact kk v' g1 h _ (.refl _) S ⟨_,rfl,A.append A1,fun h=>by simp at h,List.nodup_append.2 ⟨nd,by simp,fun p hp q hq e=>by simp at hq;subst hq;subst e;exact nM hp⟩,fun y hy=>by
    rcases List.mem_append.1 hy with hy | hy
    · exact aM y hy
    · simp at hy;subst hy;exact hx⟩
 · intro it a g1 h1 Γ1 xs wF hp hI S1;obtain⟨ls,rfl,A,hn,nd,aM⟩:=hI;refine S1.sort aIi (fun p cap w=>Any.slices_Sort_int_none aos p cap w) (fun cS off cap zs w=>Any.slices_Sort_int aos cS off cap zs w) A hn (by rw [hp.length_eq];exact hlen) fun h' wj S2 A2=>?_;rw [aIj cZ.sD hp]at A2;obtain⟨g2,xr,S3,F⟩:=S2.fz A2 (eD .i64);exact H g2 h' a S3 F
end T
end
end Go.Ve
namespace Go.Ve.T
open Go.Ve Go.Proofs
noncomputable section
def rC (w zN:Int) (t:ZZD):ZZD:=t.filter fun n=>decide (zN=2)|| !decide (n=w)
def QF (x2:List (ZZD)) (i:ah) (s:ZZD) (x:Int×Int):Option (ZZD×Fl):=(ix x2 x.1).bind fun t=>(Jz i).bind fun w=>some (jU (rC w x.2 t) s,.go)
def O7 (N:Nat) (x0:ae) (x1:Int) (x2:List (ZZD)):Option (ZZD):=(Bp N x0 x1).bind fun l=>(ix x0.ab x1).bind fun i=>(rq (QF x2 i) l []).bind fun q=>(OK N i).bind fun rs=>gu (decide (rs.length≤1000)) (match q.2 with | .go=>some (jU rs q.1) | _=>none)
section
variable {w0:World}{c:Cx}{g h:AH}
theorem aHz {E R b5 mb d w rs r}(r5:g.bH b5 0 [.map (some mb)])(F:aa (rI .i64) 1 g w rs)(hl:rs.length≤1000)
 (H:∀(g' h':AH) (w1:Z),Sep c g' h' []→mI g' w1 r→R w1 h'):
 ∀(m i:Nat){h:AH}{es:List (Z×Z×Nat)}{cl:Nat}{s:ZZD},m+i=rs.length→jU (rs.drop i) s=r→Sep c g h [.ds d,.mp mb es cl]→pb es cl s→
  gg (α:=(Z)×List Nat) (fun k a=>EL w0 E R (vi (rs.length:Int)) w (ak b5 0) (fun b0 q=>k ((b0),q)) a.1 a.2) (m+1) (vi (i:Int),d) h:=by
 intro m
 induction m with
 | zero=>
  intro i h es cl s hm hr S A;have hi:i=rs.length:=by omega
  subst hi;rw [List.drop_length]at hr;have hr:s=r:=hr;subst hr;show EL w0 E R (vi (rs.length:Int)) w (ak b5 0) _ (vi (rs.length:Int)) d h;unfold EL;refine fj.2 ?_;rw [zag (by omega)];refine qT ?_;unfold Z7;refine S.dK (r5 0 _ rfl) (S.iH (fun h S=>?_));obtain⟨g',sg,S,M⟩:=S.aA5 A;exact H _ _ _ S M
 | succ m ih=>
  intro i h es cl s hm hr S A;have hi:i<rs.length:=by omega
  show EL w0 E R (vi (rs.length:Int)) w (ak b5 0) _ (vi (i:Int)) d h;unfold EL;refine fj.2 ?_;rw [zac (by omega)];refine yg ?_;unfold Z9;have hx:ix rs (i:Int)=some rs[i]:=zab hi;refine aa.idx F hx (fun b o vs E2 rr rp=>?_);cases rp;refine S.dK (rr 0 _ rfl) (S.dK (r5 0 _ rfl) ?_);have S:=S.f1;refine S.aoy A (fun es cl h S A=>?_);have S:=S.f1;unfold Z8;refine gE.2 ?_;rw [jv (by omega) (by omega)];have:=ih (i+1) (by omega) (by rw [←hr,List.drop_eq_getElem_cons hi];rfl) S A;exact this
end
theorem aHA {x2 i s s' x f}(h:QF x2 i s x=some (s',f)):∃t w,ix x2 x.1=some t∧Jz i=some w∧s'=jU (rC w x.2 t) s∧f= .go:=by
 unfold QF at h;obtain⟨t,h1,h⟩:=bind_some h;obtain⟨w,h2,h⟩:=bind_some h;cases h;exact⟨t,w,h1,h2,rfl,rfl⟩
theorem aHB (xs:ZZD)(x:Int)(s:ZZD):jU (xs++[x]) s=ow x (jU xs s):=by simp [jU]
theorem aEI {w0 g h Q r N x0 x1 x2 cw cx ahd}(M:O7 N x0 x1 x2=some r)(sg:Sub g h)(ok:h.Ok)(cg:aa ah.rep 4 g cw x0.ab)(cz:aa al.rep 3 g cx x0.aI)(BK:aa lT 1 g ahd x2)
 (H:∀(g' h':AH) (w1:Z),Sep ⟨g,h,[]⟩ g' h' []→mI g' w1 r→Q (.ret w1) h'):WF PP w0 aac [.agg ⟨Kf x0 cw cx⟩,vi x1,ahd] h Q:=by
 unfold O7 at M;obtain⟨l,hl,M⟩:=bind_some M;obtain⟨i,hi,M⟩:=bind_some M;obtain⟨q,hq,M⟩:=bind_some M;obtain⟨rs,Ck,M⟩:=bind_some M;obtain⟨hlen,M⟩:=nE M;have hlen:=zao hlen;refine at3 _ _ _ ?_;have S:=Sep.start sg ok;have S:Sep _ g h [.ds []]:=S.Vm;unfold aiM;refine S.box (Kf x0 cw cx) rfl (ag rfl (ag rfl (ag rfl (ag rfl (ag rfl (ag cg.one (ag cz.one rfl))))))) (fun b1 h S=>?_);refine S.box [vi x1] rfl rfl (fun b2 h S=>?_);refine S.box [ahd] (mE BK.one) (ag BK.one rfl) (fun b3 h S=>?_);refine S.smk (fun mb h S A=>?_);refine S.alloc (l:=[.map none]) rfl (fun b5 h S=>?_);refine S.cV [.map (some mb)] [.map (some mb)] rfl rfl rfl (zaa rfl) rfl (fun h S=>?_);obtain⟨g5,sg5,S,r5⟩:=S.vk;have S:=S.f1;obtain⟨g3,QE,S,r3⟩:=S.vk;have S:=S.f1;obtain⟨g2,xr,S,r2⟩:=S.vk;have S:=S.f1;obtain⟨g1,wF,S,r1⟩:=S.vk;have S:=S.f1;have r5:=((QE.trans xr).trans wF).bH r5;have r3:=(xr.trans wF).bH r3;have r2:=wF.bH r2;have sga:=((sg5.trans QE).trans xr).trans wF;have cg:=cg.mono ah.mono sga;have cz:=cz.mono al.mono sga;have BK:=BK.mono Bg sga;refine S.iX r1 rfl (by decide) (S.dK (r2 0 _ rfl) (V6 N x0 x1 cw cx S.sub S.ok cg cz hl (fun ga h v30 S1 It=>?_)));have Hb:=S1.bF;have S:=S.ou S1;have r1:=Hb.bH r1;have r2:=Hb.bH r2;have r3:=Hb.bH r3;have r5:=Hb.bH r5;have cg:=cg.mono ah.mono Hb;have cz:=cz.mono al.mono Hb;have BK:=BK.mono Bg Hb;refine Vn (QF x2 i) (fun s g' h' Γ=>Sub ga g'∧∃es cl,Γ=[.mp mb es cl]∧pb es cl s) It (fun s g h Γ g' h' hd sb=>⟨hd.1.trans sb,hd.2⟩) S ⟨.refl _,_,_,rfl,A⟩ hq ?_ ?_
 · intro lo n qq s x s' f R g2 h2 Γ2 sub S D1 bm kk;obtain⟨wG,es,cl,rfl,A⟩:=D1;obtain⟨t,w,ht,hw,rfl,rfl⟩:=aHA bm;have r1:=wG.bH r1;have r2:=wG.bH r2;have r3:=wG.bH r3;have r5:=wG.bH r5;have cg:=cg.mono ah.mono wG;have BK:=BK.mono Bg wG;show aab w0 qd R (ak b3 0) (ak b1 0) (ak b2 0) (ak b5 0) lo n (vi x.1) (vi x.2) h2;unfold aab;refine S.wO (S.rQ (fun h S=>?_));refine S.dK (r3 0 _ rfl) (aa.idx BK ht (fun b o vs E2 rr rp=>?_));obtain⟨tv,rfl,tF⟩:=rp;refine S.dK (rr 0 _ rfl) ?_;have hs:=A.sD;refine Sep.range S tF (fun it k a=>rfl) (fun xs _ gx Γ=>∃es cl,Γ=[.lp n lo .busy none,.ds (qq::[]),.mp mb es cl]∧pb es cl (jU (rC w x.2 xs) s)) ⟨es,cl,rfl,A⟩ ?_ ?_
   · intro it o k a gx h1 Γ1 xs z hI Eh hz hnz S1 hE kk2;obtain⟨es,cl,rfl,A⟩:=hI;show Sd w0 qd R it (vi x.2) (ak b1 0) (ak b2 0) (ak b5 0) (k ()) h1;unfold Sd;refine hE _ ?_;refine(fk rfl).2 ?_;refine gr.2 ?_;have r1:=Eh.bH r1;have r2:=Eh.bH r2;have r5:=Eh.bH r5;have cg:=cg.mono ah.mono Eh
     have take:∀bb:Bool,(decide (x.2=2)|| !decide (z=w))=bb→rC w x.2 (xs++[z])=rC w x.2 xs++(bif bb then [z]else []):=fun bb e=>by
      unfold rC;rw [List.filter_append]
      congr 1
      rw [List.filter_cons,e];cases bb<;>rfl
     have put:∀{h2:AH},Sep ⟨g,_,[]⟩ gx h2 (o::[.lp n lo .busy none,.ds (qq::[]),.mp mb es cl])→(decide (x.2=2)|| !decide (z=w))=true→
      (pr (.aB) [ak b5 0] fun dB=>pr (.ye 0) [dB,vi z,.bool true] fun iG=>k ()) h2:=fun S e=>by
      refine S.dK (r5 0 _ rfl) ?_;have S:=S.f3;refine S.aoy A (fun es cl h S A=>?_);have S:=S.f3.f3.f3;refine kk2 () gx h _ (.refl _) S ⟨es,cl,rfl,?_⟩;rw [take true e,zam,aHB];exact A
     cases h2:decide (x.2=2)with
     | true=>
      repeat refine ax (by decide) ?_;refine aW.2 (yg ?_);exact put S1 (by rw [h2];rfl)
     | false=>
      refine au rfl (au rfl (aQ.2 (au rfl (S1.dK (r1 5 _ rfl) (au rfl (S1.dK (r2 0 _ rfl) (au rfl (aa.idx cg hi (fun b o2 vs E3 rr2 rp=>?_)))))))));cases rp;refine au rfl (S1.iX rr2 rfl (by decide) (au rfl (aDh hw S1.sub S1.ok (fun _ h S2=>?_))));have S1:=S1.dz S2;refine au rfl (gb.2 (aW.2 ?_));cases hzw:decide (z=w)with
      | true=>
       refine qT (kk2 () gx h _ (.refl _) S1 ⟨es,cl,rfl,?_⟩);rw [take false (by rw [h2,hzw];rfl),zak,zaS];exact A
      | false=>
       refine yg ?_;exact put S1 (by rw [h2,hzw];rfl)
   · intro it a gx h1 Γ1 xs Eh hp hI S1;obtain⟨es,cl,rfl,A⟩:=hI;show lg lo n .ready none true R h1;refine S1.lg (fun h S=>?_);refine kk gx h _ Eh S ⟨wG.trans Eh,es,cl,rfl,?_⟩
     have e:jU (rC w x.2 xs) s=jU (rC w x.2 t) s:=aA2 hs fun y=>by
      unfold rC;rw [zbp,zbp,hp.mem_iff]
     rw [←e];exact A
 · intro qq gx h Γ2 Eh S D1;obtain⟨wG,es,cl,rfl,A⟩:=D1;cases hf:q.2 with
   | go=>
    rw [hf]at M;have M:=zaL M;refine Vk ?_;have r1:=wG.bH r1;have r2:=wG.bH r2;have r5:=wG.bH r5;have cg:=cg.mono ah.mono wG;unfold aaa;refine aQ.2 (S.dK (r1 5 _ rfl) (S.dK (r2 0 _ rfl) (aa.idx cg hi (fun b o2 vs E3 rr2 rp=>?_))));cases rp;refine S.iX rr2 rfl (by decide) (aDf Ck S.sub S.ok (fun gy h w S1 F=>?_));have r5:=S1.bF.bH r5;have S:=S.ou S1;refine F.len ?_;exact⟨_,aHz r5 F hlen H rs.length 0 (by omega) (by rw [zbB];exact M) S A⟩
   | ret=>rw [hf]at M;cases M
   | ex j=>rw [hf]at M;cases M
set_option maxRecDepth 10000
def zC (w0:World) (g:AH) (fv:Z) (f:(ZZD)→Option ((ZZD))):Prop:=iA fv=true∧∀(a0:ZZD) (xK:Z) (r:(ZZD)) (E K:ZZF) (g2 h2:AH),Sub g g2→Sub g2 h2→h2.Ok→mI g2 xK a0→f a0=some r→(∀(g' h':AH) (w1:Z),Sep ⟨g2,h2,[]⟩ g' h' []→aa (rI .i64) 1 g' w1 r→K w1 h')→dy PP w0 [fv,xK] E K h2
theorem zC.mono {w0 g g' fv f}(H:zC w0 g fv f)(S:Sub g g'):zC w0 g' fv f:=⟨H.1,fun a0 xK r E K g2 h2 s1=>H.2 a0 xK r E K g2 h2 (Sub.trans S s1)⟩
def Wh (N:Nat) (y5:Int) (y7:List (ZZD)) (kA:(List (ZZD))→Int→Option ((List (ZZD)))):Option ((List (ZZD))):=
 kA y7 (bN .i64 (y5+1))
def Wi (N:Nat) (x0:List (ZZD)) (y5:Int) (x1:(ZZD)→Option ((ZZD))) (y4:List (ZZD)) (kA:(List (ZZD))→Int→Option ((List (ZZD)))):Option ((List (ZZD))):=
(ix x0 y5).bind fun gi=>
(x1 gi).bind fun fD=>
 gu (decide (y4.length+[fD].length≤1048576)) (
 Wh N y5 (y4++[fD]) kA)
def Wj (N:Nat) (y1:List (ZZD))  :Option ((List (ZZD))):=
 some y1
def O5 (N:Nat) (v2:Int) (x0:List (ZZD)) (x1:(ZZD)→Option ((ZZD))) (y4:List (ZZD)) (y5:Int) (kA:(List (ZZD))→Int→Option ((List (ZZD)))):Option ((List (ZZD))):=
 bif (decide (y5<v2))then(
 Wi N x0 y5 x1 y4 kA)else(
 Wj N y4)
def JJ (N:Nat) (v2:Int) (x0:List (ZZD)) (x1:(ZZD)→Option ((ZZD)))  :Nat→(List (ZZD))→Int→Option ((List (ZZD))) | 0,_,_=>none | n+1,y4,y5=>O5 N v2 x0 x1 y4 y5  (fun ar cd=>JJ N v2 x0 x1 n ar cd)
def Wl (N:Nat) (x0:List (ZZD)) (x1:(ZZD)→Option ((ZZD))):Option ((List (ZZD))):=
 JJ N (x0.length:Int) x0 x1 N ([]:List (ZZD)) 0
abbrev JK (c:Cx) (R:ZZF) (r:(List (ZZD))):Prop:=∀(g' h':AH) (w1:Z),Sep c g' h' []→aa (rL (rI .i64) 1) 1 g' w1 r→R w1 h'
theorem aEx {w0 c g h E R r N y5 y7 aqh aqi k3 kA qE}(M:Wh N y5 y7 kA=some r)(S:Sep c g h [.sl 28 1 aqh aqi])(aEy:aw ((rL (rI .i64) 1) g) aqi y7)(vq:Sub qE g)(xB:∀{ar:List (ZZD)}{ft:Z}{fu:List (ZZE)}{cd:Int}{g2 h2:AH},kA ar cd=some r→Sub qE g2→Sep c g2 h2 [.sl 28 1 ft fu]→aw ((rL (rI .i64) 1) g2) fu ar→k3 ft (vi cd) h2)(H:JK c R r):aae w0 E R (vi y5) k3 aqh h:=by
 unfold aae;unfold Wh at M;refine gE.2 ?_;exact xB M vq S aEy
theorem aEz {w0 c g h E R r N x0 y5 x1 y4 cA bV zD xL k3 kA qE}(M:Wi N x0 y5 x1 y4 kA=some r)(S:Sep c g h [.sl 28 1 zD xL])(cZ:aa lT 1 g cA x0)(cn:zC w0 g bV x1)(xM:aw ((rL (rI .i64) 1) g) xL y4)(vq:Sub qE g)(xB:∀{ar:List (ZZD)}{ft:Z}{fu:List (ZZE)}{cd:Int}{g2 h2:AH},kA ar cd=some r→Sub qE g2→Sep c g2 h2 [.sl 28 1 ft fu]→aw ((rL (rI .i64) 1) g2) fu ar→k3 ft (vi cd) h2)(H:JK c R r):aaf w0 E R cA (vi y5) bV zD k3 h:=by
 unfold aaf;unfold Wi at M;obtain⟨gi,nU,M⟩:=bind_some M;refine aa.idx cZ nU (fun vo NM vs E_8 Oa rp=>?_);obtain⟨w_5,rfl,Bs⟩:=rp;refine S.dK (Oa 0 _ rfl) ?_;obtain⟨fD,qC,M⟩:=bind_some M;refine cn.2 gi w_5 _ _ _ _ _ (Sub.refl _) S.sub S.ok Bs qC (fun g h xN S1 zE=>?_);have cZ:=aa.mono cZ Bg S1.bF;have cn:=zC.mono cn S1.bF;have Oa:=S1.bF.bH Oa;have Bs:=mI.mono Bs S1.bF;have xM:=aw.mono xM (fun _ _ hh=>(Ns (eD .i64)) _ _ _ _ S1.bF hh);have vq:=Sub.trans vq S1.bF;have S:=S.ou S1;refine S.tp [[xN]] (rn (m:=[xN]) (l2:=[xN]) (mE zE.one) rfl (zaa rfl) rfl rfl) rfl (by decide) (vn rfl tq) (ag zE.one rfl) (fun aBn h S=>?_);have NJ:aw ((rL (rI .i64) 1) g) [[xN]] [fD]:=(aw.push aw.nil (show(rL (rI .i64) 1) g [xN] fD from⟨_,rfl,zE⟩));have S:=S.f1;obtain⟨aEA,M⟩:=nE M;refine S.app (S.rd 1 rfl) (by rw [xM.1,NJ.1];exact aEA) (by decide) rfl (nF aoO NJ) (nF aoO xM) (fun aC6 h S=>?_);have OL:aw ((rL (rI .i64) 1) g) (xL++[[xN]]) (y4++[fD]):=aw.append xM NJ;have S:=S.t1;exact aEx M S OL vq xB H
theorem aEB {w0 c g h E R r N y1 agc aqj}  (M:Wj N y1=some r)(S:Sep c g h [.sl 28 1 agc aqj])(aEC:aw ((rL (rI .i64) 1) g) aqj y1)  (H:JK c R r):aad w0 E R agc h:=by
 unfold aad;unfold Wj at M;obtain⟨g,sg,S,GO⟩:=S.fz aEC (Ns (eD .i64));cases M;exact H _ _ agc S.bO GO
theorem aED {w0 c g h E R r N v2 x0 x1 y4 y5 cA bV zD xL k3 kA qE}(M:O5 N v2 x0 x1 y4 y5 kA=some r)(S:Sep c g h [.sl 28 1 zD xL])(cZ:aa lT 1 g cA x0)(cn:zC w0 g bV x1)(xM:aw ((rL (rI .i64) 1) g) xL y4)(vq:Sub qE g)(xB:∀{ar:List (ZZD)}{ft:Z}{fu:List (ZZE)}{cd:Int}{g2 h2:AH},kA ar cd=some r→Sub qE g2→Sep c g2 h2 [.sl 28 1 ft fu]→aw ((rL (rI .i64) 1) g2) fu ar→k3 ft (vi cd) h2)(H:JK c R r):Sf w0 E R (vi v2) cA bV k3 zD (vi y5) h:=by
 unfold Sf;unfold O5 at M;refine fj.2 (bR (fun hc=>?_) (fun hc=>?_))
 · have M:=aV hc M;exact aEz M S cZ cn xM vq xB H
 · have M:=aX hc M;exact aEB M S xM H
theorem aEE {w0 c E R r N v2 x0 x1 cA bV}   (H:JK c R r):∀(n:Nat){y4:List (ZZD)}{y5:Int}{zD:Z}{xL:List (ZZE)}{g h:AH},JJ N v2 x0 x1 n y4 y5=some r→Sep c g h [.sl 28 1 zD xL]→aa lT 1 g cA x0→zC w0 g bV x1→aw ((rL (rI .i64) 1) g) xL y4→gg (α:=Z×Z) (fun k a=>Sf w0 E R (vi v2) cA bV (fun b0 b1=>k (b0,b1)) a.1 a.2) n (zD,(vi y5)) h:=by
 intro n
 induction n with
 | zero=>
  intro y4 y5 zD xL g h M S cZ cn xM ;unfold JJ at M;cases M
 | succ n ih=>
  intro y4 y5 zD xL g h M S cZ cn xM ;exact aED M S cZ cn xM  (Sub.refl g) (fun M2 sub S2 Bk=>ih M2 S2 (aa.mono cZ Bg sub) (zC.mono cn sub) Bk) H
theorem aEF {w0 g h Q r N x0 x1 cA bV}(M:Wl N x0 x1=some r)(sg:Sub g h)(ok:h.Ok)(cZ:aa lT 1 g cA x0)(cn:zC w0 g bV x1)(H:JK ⟨g,h,[]⟩ (fun v=>Q (.ret v)) r):WF PP w0 aag [cA,bV] h Q:=by
 refine at5 _ _ ?_;have S:=Sep.start sg ok;unfold aiN;unfold Wl at M;refine cZ.len ?_;have S:=S.B1 28 1;exact⟨N,aEE  H _ M S cZ cn (aw.nil (R:=(rL (rI .i64) 1) g))⟩
def O6 (N:Nat) (bL:Int) (eC:Bool) (ui:ae) (Wm:List (ZZD)) (sI:Bool→Int→(List (ZZD))→Option ((List (ZZD)))):Option ((List (ZZD))):=
 sI eC (bN .i64 (bL-1)) Wm
def Wn (N:Nat) (v1:ae) (bL:Int) (v5:List (ZZD)) (ch:Bool) (sI:Bool→Int→(List (ZZD))→Option ((List (ZZD)))):Option ((List (ZZD))):=
(O7 N v1 bL v5).bind fun fD=>
(ix v5 bL).bind fun kD=>
 bif (!decide ((fD.length:Int)=(kD.length:Int)))then(
(ix v5 bL).bind fun sB=>
 O6 N bL true v1 (v5.set bL.toNat fD) sI)else(
 O6 N bL ch v1 v5 sI)
def GP (N:Nat) (v1:ae) (v5:List (ZZD)) (ch:Bool) (bL:Int) (oC:Bool→(List (ZZD))→Option ((List (ZZD)))) (sI:Bool→Int→(List (ZZD))→Option ((List (ZZD)))):Option ((List (ZZD))):=
 bif (decide (0≤bL))then(
 Wn N v1 bL v5 ch sI)else(
 oC ch v5)
def DJ (N:Nat) (v1:ae) (oC:Bool→(List (ZZD))→Option ((List (ZZD)))):Nat→(List (ZZD))→Bool→Int→Option ((List (ZZD))) | 0,_,_,_=>none | n+1,v5,ch,bL=>GP N v1 v5 ch bL oC (fun ar cd bY=>DJ N v1 oC n bY ar cd)
def O8 (N:Nat) (v1:ae) (v5:List (ZZD)) (oC:Bool→(List (ZZD))→Option ((List (ZZD)))):Option ((List (ZZD))):=
 DJ N v1 oC N v5 false (bN .i64 ((v1.ab.length:Int)-1))
def O9 (N:Nat) (v5:List (ZZD))  :Option ((List (ZZD))):=
(Wl N v5 (fun a0=>JL a0)).bind fun JM=>
 some JM
def agd (N:Nat) (v1:ae) (v5:List (ZZD)) (y8:Bool) (oC:Bool→(List (ZZD))→Option ((List (ZZD)))):Option ((List (ZZD))):=
 bif y8 then(
 O8 N v1 v5 oC)else(
 O9 N v5)
def DK (N:Nat) (v1:ae)  :Nat→(List (ZZD))→Bool→Option ((List (ZZD))) | 0,_,_=>none | n+1,v5,y8=>agd N v1 v5 y8  (fun ar bY=>DK N v1 n bY ar)
def Wo (N:Nat) (v1:ae)  :Option ((List (ZZD))):=
 gu (decide (0≤(v1.ab.length:Int))&&decide ((v1.ab.length:Int)≤65536)) (
 DK N v1 N (List.replicate (v1.ab.length:Int).toNat ([]:ZZD)) true)
def IX (N:Nat) (x0:ae):Option ((List (ZZD))):=
(Dc N x0).bind fun cv=>
 bif (!cv)then(
 some ([]:List (ZZD)))else(
 Wo N x0)
abbrev zF (c:Cx) (R:ZZF) (r:(List (ZZD))):Prop:=∀(g' h':AH) (w1:Z),Sep c g' h' []→aa (rL (rI .i64) 1) 1 g' w1 r→R w1 h'
theorem aqk {w0 c g h E R r N bL eC ui Wm aql age agf aqm aqn rW sI DM}(M:O6 N bL eC ui Wm sI=some r)(S:Sep c g h [.bx aql (ZZA ui age agf),.sl 102 1 aqm aqn])(aLe:aa ah.rep 4 g age ui.ab)(aLf:aa al.rep 3 g agf ui.aI)(aEG:aw (lT g) aqn Wm)(DN:Sub DM g)(JN:∀{ar:Bool}{cd:Int}{bY:List (ZZD)}{eg:List (ZZE)}{g2 h2:AH},sI ar cd bY=some r→Sub DM g2→Sep c g2 h2 [.bx aql (ZZA ui age agf),.sl 102 1 aqm eg]→aw (lT g2) eg bY→rW (.bool ar) (vi cd) h2)(H:zF c R r):Sg w0 E R (vi bL) rW (.bool eC) h:=by
 unfold Sg;unfold O6 at M;refine lB.2 ?_;exact JN M DN S aEG
theorem aEH {w0 c g h E R r N v1 bL v5 ch av aA az lr lJ rW sI DM}(M:Wn N v1 bL v5 ch sI=some r)(S:Sep c g h [.bx av (ZZA v1 aA az),.sl 102 1 lr lJ])(aH:aa ah.rep 4 g aA v1.ab)(aG:aa al.rep 3 g az v1.aI)(mO:aw (lT g) lJ v5)(DN:Sub DM g)(JN:∀{ar:Bool}{cd:Int}{bY:List (ZZD)}{eg:List (ZZE)}{g2 h2:AH},sI ar cd bY=some r→Sub DM g2→Sep c g2 h2 [.bx av (ZZA v1 aA az),.sl 102 1 lr eg]→aw (lT g2) eg bY→rW (.bool ar) (vi cd) h2)(H:zF c R r):aai w0 E R (ak av 0) (vi bL) lr rW (.bool ch) h:=by
 unfold aai;unfold Wn at M;refine S.eA (ZZA v1 aA az) 0 rfl rfl rfl (by decide) ?_;have S:=S.f1;obtain⟨g_7,sq,uq,O4,bq⟩:=S.aA6 mO Bg;obtain⟨fD,qC,M⟩:=bind_some M;refine aEI qC uq S.ok (aa.mono aH ah.mono sq) (aa.mono aG al.mono sq) O4 (fun _ h xN S1 zE=>?_);obtain⟨g,sg,S,bm⟩:=bq _ _ S1;have zE:=bm _ _ zE;have aH:=aa.mono aH ah.mono sg;have aG:=aa.mono aG al.mono sg;have mO:=aw.mono mO (fun _ _ hh=>Bg _ _ _ _ sg hh);have DN:=Sub.trans DN sg;refine S.aoz zE ?_;obtain⟨kD,vt,M⟩:=bind_some M;refine S.mF 0 rfl mO vt (fun aDT aDU vs aor aEJ rp=>?_);obtain⟨aLg,rfl,GO⟩:=rp;refine S.tU (j:=0) 0 rfl aor aEJ rfl (S.aoz GO (gb.2 (bR (fun hc=>?_) (fun hc=>?_))))
 · have M:=aV hc M;obtain⟨sB,Bd,M⟩:=bind_some M;refine S.mF 0 rfl mO Bd (fun aB8 aB9 vs afT afU rp=>?_);obtain⟨Wp,rfl,agh⟩:=rp;refine S.Bb (j:=0) [xN] afT afU (mE zE.one) rfl (ag zE.one rfl) (by decide) (fun h S=>?_);have aEK:aw (lT g) (lJ.set bL.toNat [xN]) (v5.set bL.toNat fD):=aw.set mO (show lT g [xN] fD from⟨_,rfl,zE⟩) bL.toNat;have S:Sep _ g h [.sl 102 1 lr (lJ.set bL.toNat [xN]),.bx av (ZZA v1 aA az)]:=S;have S:=S.f1;exact aqk M S aH aG aEK DN JN H
 · have M:=aX hc M;have S:=S.f1;exact aqk M S aH aG mO DN JN H
theorem aEL {w0 c g h E R r N v1 v5 ch bL av aA az lr lJ k7 oC xP rW sI DM}(M:GP N v1 v5 ch bL oC sI=some r)(S:Sep c g h [.bx av (ZZA v1 aA az),.sl 102 1 lr lJ])(aH:aa ah.rep 4 g aA v1.ab)(aG:aa al.rep 3 g az v1.aI)(mO:aw (lT g) lJ v5)(Bu:Sub xP g)(GQ:∀{ar:Bool}{bY:List (ZZD)}{eg:List (ZZE)}{g2 h2:AH},oC ar bY=some r→Sub xP g2→Sep c g2 h2 [.bx av (ZZA v1 aA az),.sl 102 1 lr eg]→aw (lT g2) eg bY→k7 (.bool ar) h2)(DN:Sub DM g)(JN:∀{ar:Bool}{cd:Int}{bY:List (ZZD)}{eg:List (ZZE)}{g2 h2:AH},sI ar cd bY=some r→Sub DM g2→Sep c g2 h2 [.bx av (ZZA v1 aA az),.sl 102 1 lr eg]→aw (lT g2) eg bY→rW (.bool ar) (vi cd) h2)(H:zF c R r):Sh w0 E R (ak av 0) lr k7 rW (.bool ch) (vi bL) h:=by
 unfold Sh;unfold GP at M;refine sk.2 (bR (fun hc=>?_) (fun hc=>?_))
 · have M:=aV hc M;exact aEH M S aH aG mO DN JN H
 · have M:=aX hc M;exact GQ M Bu S mO
theorem aEM {w0 c E R r N v1 av aA az lr k7 oC xP}(GQ:∀{ar:Bool}{bY:List (ZZD)}{eg:List (ZZE)}{g2 h2:AH},oC ar bY=some r→Sub xP g2→Sep c g2 h2 [.bx av (ZZA v1 aA az),.sl 102 1 lr eg]→aw (lT g2) eg bY→k7 (.bool ar) h2)(H:zF c R r):∀(n:Nat){v5:List (ZZD)}{ch:Bool}{bL:Int}{lJ:List (ZZE)}{g h:AH},DJ N v1 oC n v5 ch bL=some r→Sep c g h [.bx av (ZZA v1 aA az),.sl 102 1 lr lJ]→aa ah.rep 4 g aA v1.ab→aa al.rep 3 g az v1.aI→aw (lT g) lJ v5→Sub xP g→gg (α:=Z×Z) (fun k a=>Sh w0 E R (ak av 0) lr k7 (fun b0 b1=>k (b0,b1)) a.1 a.2) n ((.bool ch),(vi bL)) h:=by
 intro n
 induction n with
 | zero=>
  intro v5 ch bL lJ g h M S aH aG mO Bu;unfold DJ at M;cases M
 | succ n ih=>
  intro v5 ch bL lJ g h M S aH aG mO Bu;exact aEL M S aH aG mO Bu GQ (Sub.refl g) (fun M2 sub S2 xE=>ih M2 S2 (aa.mono aH ah.mono sub) (aa.mono aG al.mono sub) xE (Sub.trans Bu sub)) H
theorem aEN {w0 c g h E R r N v1 v5 av aA az lr lJ k7 oC xP}(M:O8 N v1 v5 oC=some r)(S:Sep c g h [.bx av (ZZA v1 aA az),.sl 102 1 lr lJ])(aH:aa ah.rep 4 g aA v1.ab)(aG:aa al.rep 3 g az v1.aI)(mO:aw (lT g) lJ v5)(Bu:Sub xP g)(GQ:∀{ar:Bool}{bY:List (ZZD)}{eg:List (ZZE)}{g2 h2:AH},oC ar bY=some r→Sub xP g2→Sep c g2 h2 [.bx av (ZZA v1 aA az),.sl 102 1 lr eg]→aw (lT g2) eg bY→k7 (.bool ar) h2)(H:zF c R r):aaj w0 E R (ak av 0) lr k7 h:=by
 unfold aaj;unfold O8 at M;refine aQ.2 (S.aP 0 rfl rfl (aH.len (lB.2 ?_)));exact⟨N,aEM GQ H _ M S aH aG mO Bu⟩
theorem aEO {w0 c g h E R r N v5 lr lJ}  (M:O9 N v5=some r)(S:Sep c g h [.sl 102 1 lr lJ])(mO:aw (lT g) lJ v5)  (H:zF c R r):aah w0 E R lr h:=by
 unfold aah;unfold O9 at M;obtain⟨g,sg,S,agi⟩:=S.fz mO Bg;have aEP:zC w0 g (fc Sc) (fun a0=>JL a0):=⟨rfl,fun a0 xK r E K g2 h2 s1 s2 s3 q0 m1 k1=>aEQ m1 s2 s3 q0 k1⟩;obtain⟨JM,agj,M⟩:=bind_some M;refine aEF agj S.sub S.ok agi aEP (fun g h aqo S1 I6=>?_);have agi:=aa.mono agi Bg S1.bF;have S:=S.ou S1;cases M;exact H _ _ aqo S.bO I6
theorem aER {w0 c g h E R r N v1 v5 y8 av aA az lr lJ k7 oC xP}(M:agd N v1 v5 y8 oC=some r)(S:Sep c g h [.bx av (ZZA v1 aA az),.sl 102 1 lr lJ])(aH:aa ah.rep 4 g aA v1.ab)(aG:aa al.rep 3 g az v1.aI)(mO:aw (lT g) lJ v5)(Bu:Sub xP g)(GQ:∀{ar:Bool}{bY:List (ZZD)}{eg:List (ZZE)}{g2 h2:AH},oC ar bY=some r→Sub xP g2→Sep c g2 h2 [.bx av (ZZA v1 aA az),.sl 102 1 lr eg]→aw (lT g2) eg bY→k7 (.bool ar) h2)(H:zF c R r):Si w0 E R (ak av 0) lr k7 (.bool y8) h:=by
 unfold Si;unfold agd at M;refine bR (fun hc=>?_) (fun hc=>?_)
 · have M:=aV hc M;exact aEN M S aH aG mO Bu GQ H
 · have M:=aX hc M;have S:=S.f1.t1;exact aEO M S mO H
theorem aES {w0 c E R r N v1 av aA az lr}   (H:zF c R r):∀(n:Nat){v5:List (ZZD)}{y8:Bool}{lJ:List (ZZE)}{g h:AH},DK N v1 n v5 y8=some r→Sep c g h [.bx av (ZZA v1 aA az),.sl 102 1 lr lJ]→aa ah.rep 4 g aA v1.ab→aa al.rep 3 g az v1.aI→aw (lT g) lJ v5→gg (α:=Z) (fun k a=>Si w0 E R (ak av 0) lr k a) n (.bool y8) h:=by
 intro n
 induction n with
 | zero=>
  intro v5 y8 lJ g h M S aH aG mO ;unfold DK at M;cases M
 | succ n ih=>
  intro v5 y8 lJ g h M S aH aG mO ;exact aER M S aH aG mO  (Sub.refl g) (fun M2 sub S2 xE=>ih M2 S2 (aa.mono aH ah.mono sub) (aa.mono aG al.mono sub) xE) H
theorem aET {w0 c g h E R r N v1 av aA az}  (M:Wo N v1=some r)(S:Sep c g h [.bx av (ZZA v1 aA az)])(aH:aa ah.rep 4 g aA v1.ab)(aG:aa al.rep 3 g az v1.aI)  (H:zF c R r):aak w0 E R (ak av 0) h:=by
 unfold aak;unfold Wo at M;refine aQ.2 (S.aP 0 rfl rfl (aH.len ?_));obtain⟨aga,M⟩:=nE M;refine S.Nw aga rfl (ag rfl rfl) (fun GK h S=>?_);have JG:aw (lT g) (List.replicate (v1.ab.length:Int).toNat [.map none]) (List.replicate (v1.ab.length:Int).toNat ([]:ZZD)):=aw.I8 (show lT g [.map none] ([]:ZZD)from⟨_,rfl,mI.nil⟩) _;have S:=S.f1;exact⟨N,aES  H _ M S aH aG JG⟩
theorem aoi {w0 g h Q r N x0 cw cx}(M:IX N x0=some r)(sg:Sub g h)(ok:h.Ok)(cg:aa ah.rep 4 g cw x0.ab)(cz:aa al.rep 3 g cx x0.aI)(H:zF ⟨g,h,[]⟩ (fun v=>Q (.ret v)) r):WF PP w0 Sj [(.agg ⟨(ZZA x0 cw cx)⟩)] h Q:=by
 refine at6 _ ?_;have S:=Sep.start sg ok;unfold aiO;unfold IX at M;refine S.box (ZZA x0 cw cx) rfl (ag rfl (ag rfl (ag rfl (ag rfl (ag rfl (ag cg.one (ag cz.one rfl))))))) (fun jN h S=>?_);refine S.eA (ZZA x0 cw cx) 0 rfl rfl rfl (by decide) ?_;obtain⟨cv,nS,M⟩:=bind_some M;refine Vs nS S.sub S.ok cg cz (fun _ h  S1  =>?_);have S:=S.dz S1;refine dZ.2 (bR (fun hc=>?_) (fun hc=>?_))
 · have M:=aV hc M;cases M;exact H _ _ bJ S.bO aa.nil
 · have M:=aX hc M;exact aET M S cg cz H
end
end Go.Ve.T
namespace Go.Ve.T
open Go.Ve Go.Proofs
noncomputable section
theorem Xf {w0 h Q}(n lo hi:Int)(H:Q (.ret (.bool (decide (lo≤n∧n≤hi)))) h):WF PP w0 j5 [vi n,vi lo,vi hi] h Q:=by
 refine ahG _ _ _ ?_;rw [Bool.decide_and]at H;simp only [Xy,pr,o8];cases h1:decide (lo≤n)<;>simp only [h1,tI,tJ,tK,pr,o8,aW,zam,zak,zbE,Bool.false_and]at H ⊢ <;>exact H
def zM (n:Int):Bool:=decide (97≤n∧n≤122)||(decide (65≤n∧n≤90)||(decide (48≤n∧n≤57)||decide (n=95)))
def sQ (s:ByteArray):Bool:=s.data.toList.all (fun c=>zM (c.toNat:Int))&&decide (1≤(s.data.toList.length:Int)∧(s.data.toList.length:Int)≤20)
theorem aHw {s i}(h:128≤(s.get! i).toNat):128≤(Utf8.decode s i).1∧(Utf8.decode s i).1≤4194304:=by
 have e0:s.get! (i+0)=s.get! i:=by rw [Nat.add_zero]
 unfold Utf8.decode;simp only [e0];rw [if_neg (by omega)]
 repeat' split
 all_goals (simp only [Utf8.runeError,zae,zap,ge_iff_le]at *;omega)
theorem aHx {s:ByteArray}{i:Nat}{c:UInt8}(h:s.data.toList[i]? =some c):s.get! i=c:=by
 have h1:s.data[i]? =some c:=by simpa using h
 show s.data[i]! =c;rw [getElem!_def,h1]
section
variable {w0:World}{h:AH}{Q:CR→AH→Prop}
theorem arK {n}(h:128≤n):zM n=false:=by unfold zM;simp;omega
theorem arL {E R n k a b}(h1:0≤n)(h2:n≤4294967296)(ht:zM n=true→k h)(hf:zM n=false→R (.bool false) h):XA w0 E R (.tuple ⟨[a,b,.int .i32 n]⟩) k h:=by
 unfold XA ahK ahJ ahI;simp only [FF,pr,ld,pn,tI,uZ,u9,tJ,tK,vd,ve,ck,aW,zam,zak,tM,zaP,zaQ,gb,dZ,zaK,za7,zas,zaZ,zaw,za6];rw [jv (by omega) (by omega)];refine Xf _ _ _ ?_;have hw:bN .i64 n=n:=jv (by omega) (by omega);unfold zM at ht hf;cases e1:decide (97≤n∧n≤122)
 · simp only [FF,hw,pr,ld,pn,tI,uZ,u9,tJ,tK,vd,ve,ck,aW,zam,zak,tM,zaP,zaQ,gb,dZ,zaK,za7,zas,zaZ,zaw,za6];refine Xf _ _ _ ?_;cases e2:decide (65≤n∧n≤90)
   · simp only [FF,hw,pr,ld,pn,tI,uZ,u9,tJ,tK,vd,ve,ck,aW,zam,zak,tM,zaP,zaQ,gb,dZ,zaK,za7,zas,zaZ,zaw,za6];refine Xf _ _ _ ?_;cases e3:decide (48≤n∧n≤57)
     · cases e4:decide (n=95)<;>simp only [e1,e2,e3,e4,Bool.false_or,pr,ld,pn,tI,uZ,u9,tJ,tK,vd,ve,ck,aW,zam,zak,tM,zaP,zaQ,gb,dZ,zaK,za7,zas,zaZ,zaw,za6]at ht hf ⊢
       · exact hf trivial
       · exact ht trivial
     · simp only [e1,e2,e3,Bool.false_or,Bool.true_or,pr,ld,pn,tI,uZ,u9,tJ,tK,vd,ve,ck,aW,zam,zak,tM,zaP,zaQ,gb,dZ,zaK,za7,zas,zaZ,zaw,za6]at ht hf ⊢;exact ht trivial
   · simp only [e1,e2,Bool.false_or,Bool.true_or,pr,ld,pn,tI,uZ,u9,tJ,tK,vd,ve,ck,aW,zam,zak,tM,zaP,zaQ,gb,dZ,zaK,za7,zas,zaZ,zaw,za6]at ht hf ⊢;exact ht trivial
 · simp only [e1,Bool.true_or,pr,ld,pn,tI,uZ,u9,tJ,tK,vd,ve,ck,aW,zam,zak,tM,zaP,zaQ,gb,dZ,zaK,za7,zas,zaZ,zaw,za6]at ht hf ⊢;exact ht trivial
theorem aHy (s:ByteArray) (ok:h.Ok) (H:∀h',eK h h'→h'.Ok→Q (.ret (.bool (sQ s))) h'):WF PP w0 BW [.string s] h Q:=by
 refine asS _ ?_;unfold ahM;refine ayk.2 ?_;refine ac9 (fun _ h'=>∃pos:Nat,h'.ob.get h.nx=some (.kP s pos)∧pos≤s.data.toList.length∧eK h h'∧h'.Ok∧h.nx<h'.nx∧∀j c,j<pos→s.data.toList[j]? =some c→zM (c.toNat:Int)=true)
  (fun _ h'=>match h'.ob.get h.nx with | some (.kP _ pos)=>s.data.toList.length-pos | _=>0) ?_
  ⟨0,by rw [AH.xg,if_pos rfl],Nat.zero_le _,eK.hY h _,AH.FG ok _,Nat.lt_succ_self _,fun j c hj=>absurd hj (Nat.not_lt_zero _)⟩
 rintro a h' k ⟨pos,hg,hp,K,pS,Iv,iz⟩ hk;unfold ahL;cases hc:s.data.toList[pos]? with
 | none=>
  refine(ayl hg hc).2 ?_;simp only [ahH,ax0,pr,ld,pn,tI,uZ,u9,tJ,tK,vd,ve,ck,aW,cond_true,cond_false,tM,List.getElem?_cons_zero,List.getElem?_cons_succ,gb,dZ,decide_true,decide_false,Bool.not_true,Bool.not_false,Option.some.injEq,exists_eq_left'];refine Xf _ _ _ ?_;have hlen:s.data.toList.length≤pos:=List.getElem?_eq_none_iff.1 hc
  have:sQ s=decide (1≤(s.data.toList.length:Int)∧(s.data.toList.length:Int)≤20):=by
   have h0:s.data.toList.all (fun c=>zM (c.toNat:Int))=true:=List.all_eq_true.2 fun c hm=>by
    obtain⟨j,hj,e⟩:=List.getElem_of_mem hm;exact iz j c (by omega) (by rw [List.getElem?_eq_getElem hj,e])
   unfold sQ;rw [h0,Bool.true_and]
  have H:=H h' K pS;rw [this]at H;exact H
 | some c=>
  have r8:pos<s.data.toList.length:=(List.getElem?_eq_some_iff.1 hc).1
  have bad:zM (c.toNat:Int)=false→sQ s=false:=fun e=>by
   have h0:s.data.toList.all (fun c=>zM (c.toNat:Int))=false:=by
    rw [Bool.eq_false_iff];intro hh;have:=List.all_eq_true.1 hh c (List.mem_of_getElem? hc);rw [e]at this;cases this
   unfold sQ;rw [h0,Bool.false_and]
  by_cases ha:c.toNat<128
  · refine(aym hg hc ha).2 ?_;have K2:eK h (h'.lR h.nx (.kP s (pos+1))):=K.lR (Nat.le_refl _) _;have Xg:(h'.lR h.nx (.kP s (pos+1))).Ok:=AH.Ij pS Iv _;simp only [pr,ld,pn,tI,uZ,u9,tJ,tK,vd,ve,ck,aW,cond_true,cond_false,tM,List.getElem?_cons_zero,List.getElem?_cons_succ,gb,dZ,decide_true,decide_false,Bool.not_true,Bool.not_false,Option.some.injEq,exists_eq_left'];refine arL (by omega) (by omega) (fun e=>?_) (fun e=>?_)
    · refine hk _ _ ⟨pos+1,by rw [AH.wa,if_pos rfl],r8,K2,Xg,Iv,fun j d hj hd=>?_⟩ ?_
      · by_cases AK:j=pos
        · subst AK;rw [hc]at hd;cases hd;exact e
        · exact iz j d (by omega) hd
      · simp only [AH.wa,if_true,hg];omega
    · have H:=H _ K2 Xg;rw [bad e]at H;exact H
  · have hw:=aHw (s:=s) (i:=pos) (by rw [aHx hc];omega);refine(ayn hg hc (by omega)).2 ?_;have K2:eK h (h'.lR h.nx (.kP s (pos+(Utf8.decode s pos).2))):=K.lR (Nat.le_refl _) _;have Xg:(h'.lR h.nx (.kP s (pos+(Utf8.decode s pos).2))).Ok:=AH.Ij pS Iv _;simp only [pr,ld,pn,tI,uZ,u9,tJ,tK,vd,ve,ck,aW,cond_true,cond_false,tM,List.getElem?_cons_zero,List.getElem?_cons_succ,gb,dZ,decide_true,decide_false,Bool.not_true,Bool.not_false,Option.some.injEq,exists_eq_left'];refine arL (by omega) (by omega) (fun e=>?_) (fun e=>?_)
    · rw [arK (by omega)]at e;cases e
    · have H:=H _ K2 Xg;rw [bad (arK (by omega))]at H;exact H
end
def BG (x0:ByteArray):Option Bool:=some (sQ x0)
theorem P9 {w0 g h Q r}(x0:ByteArray)(sg:Sub g h)(ok:h.Ok)(M:BG x0=some r)(H:∀(g' h':AH),Sep ⟨g,h,[]⟩ g' h' []→Q (.ret (.bool r)) h'):WF PP w0 BW [.string x0] h Q:=by
 cases M;exact aHy x0 ok fun h' K pS=>H g h' ((Sep.start sg ok).bt K pS)
set_option maxRecDepth 10000
def Oc (N:Nat) (dv:Int) (Hr:ZZD) (Hs:Int) (jW:ae) (zk:ByteArray) (zl:ByteArray) (zm:Int) (zn:Int) (zo:Int) (zp:List ah) (zq:List al) (jX:ae) (sF:(ZZD)→Int→Int→ByteArray→ByteArray→Int→Int→Int→(List ah)→(List al)→Option (ae×(ZZD)×Int)):Option (ae×(ZZD)×Int):=
 sF Hr Hs (bN .i64 (dv+1)) zk zl zm zn zo zp zq
def VB (N:Nat) (x1:List Bool) (dv:Int) (iL:Int) (lN:ZZD) (jW:ae) (zk:ByteArray) (zl:ByteArray) (zm:Int) (zn:Int) (zo:Int) (zp:List ah) (zq:List al) (jX:ae) (sF:(ZZD)→Int→Int→ByteArray→ByteArray→Int→Int→Int→(List ah)→(List al)→Option (ae×(ZZD)×Int)):Option (ae×(ZZD)×Int):=
(ix x1 dv).bind fun ML=>
 gu (decide (lN.length+[iL].length≤1048576)) (
 bif ML then(
 Oc N dv (lN++[iL]) (bN .i64 (iL+1)) jW zk zl zm zn zo zp zq jX sF)else(
 Oc N dv (lN++[iL]) iL jW zk zl zm zn zo zp zq jX sF))
def Od (N:Nat) (cj:Int) (vr:ZZD) (VC:ByteArray) (VD:ByteArray) (VE:Int) (VF:Int) (VG:Int) (VH:List ah) (VI:List al) (de:ae) (dh:ae) (fG:Int→ByteArray→ByteArray→Int→Int→Int→(List ah)→(List al)→Option (ae×(ZZD)×Int)):Option (ae×(ZZD)×Int):=
 fG (bN .i64 (cj+1)) VC VD VE VF VG VH VI
def Jq (N:Nat) (cM:ByteArray) (cN:ByteArray) (cO:Int) (cP:Int) (cQ:Int) (cX:List ah) (cY:List al) (bX:ah) (cj:Int) (vr:ZZD) (de:ae) (dh:ae) (fG:Int→ByteArray→ByteArray→Int→Int→Int→(List ah)→(List al)→Option (ae×(ZZD)×Int)):Option (ae×(ZZD)×Int):=
 gu (decide (cX.length+[bX].length≤1048576)) (
 Od N cj vr cM cN cO cP cQ (cX++[bX]) cY de dh fG)
def Oe (N:Nat) (bX:ah) (cJ:ZZD) (cM:ByteArray) (cN:ByteArray) (cO:Int) (cP:Int) (cQ:Int) (cX:List ah) (cY:List al) (cj:Int) (Hq:Bool) (de:ae) (dh:ae) (fG:Int→ByteArray→ByteArray→Int→Int→Int→(List ah)→(List al)→Option (ae×(ZZD)×Int)):Option (ae×(ZZD)×Int):=
 bif Hq then(
(ix cJ bX.fB).bind fun FZ=>
 Jq N cM cN cO cP cQ cX cY (ah.mk bX.aJ bX.fA FZ bX.fC) cj cJ de dh fG)else(
 Jq N cM cN cO cP cQ cX cY bX cj cJ de dh fG)
def VJ (N:Nat) (bX:ah) (cJ:ZZD) (cM:ByteArray) (cN:ByteArray) (cO:Int) (cP:Int) (cQ:Int) (cX:List ah) (cY:List al) (cj:Int) (de:ae) (dh:ae) (fG:Int→ByteArray→ByteArray→Int→Int→Int→(List ah)→(List al)→Option (ae×(ZZD)×Int)):Option (ae×(ZZD)×Int):=
 bif (decide (bX.aJ=24))then(
(ix cJ bX.fA).bind fun j8=>
 Jq N cM cN cO cP cQ cX cY (ah.mk bX.aJ j8 bX.fB bX.fC) cj cJ de dh fG)else(
 bif (decide (bX.aJ=25))then(
 Oe N bX cJ cM cN cO cP cQ cX cY cj (decide (bX.aJ=25)) de dh fG)else(
 Oe N bX cJ cM cN cO cP cQ cX cY cj (decide (bX.aJ=32)) de dh fG))
def VK (N:Nat) (dB:List ah) (cj:Int) (x1:List Bool) (cJ:ZZD) (cM:ByteArray) (cN:ByteArray) (cO:Int) (cP:Int) (cQ:Int) (cX:List ah) (cY:List al) (de:ae) (dh:ae) (fG:Int→ByteArray→ByteArray→Int→Int→Int→(List ah)→(List al)→Option (ae×(ZZD)×Int)):Option (ae×(ZZD)×Int):=
(ix dB cj).bind fun ia=>
(ix x1 cj).bind fun jY=>
 bif (!jY)then(
 Od N cj cJ cM cN cO cP cQ cX cY de dh fG)else(
 VJ N ia cJ cM cN cO cP cQ cX cY cj de dh fG)
def Of (N:Nat) (eI:Int) (afg:ZZD) (VL:ByteArray) (VM:ByteArray) (VN:Int) (VO:Int) (VP:Int) (VQ:List ah) (VS:List al) (jZ:ae) (sG:Int→ByteArray→ByteArray→Int→Int→Int→(List ah)→(List al)→Option (ae×(ZZD)×Int)):Option (ae×(ZZD)×Int):=
 sG (bN .i64 (eI+1)) VL VM VN VO VP VQ VS
def VT (N:Nat) (dS:List al) (eI:Int) (cD:ZZD) (cJ:ZZD) (cM:ByteArray) (cN:ByteArray) (cO:Int) (cP:Int) (cQ:Int) (cX:List ah) (cY:List al) (jZ:ae) (sG:Int→ByteArray→ByteArray→Int→Int→Int→(List ah)→(List al)→Option (ae×(ZZD)×Int)):Option (ae×(ZZD)×Int):=
(ix dS eI).bind fun tS=>
(ix cD tS.dk).bind fun qF=>
(ix cD tS.dO).bind fun qG=>
(ix cJ tS.bG).bind fun ry=>
 bif (decide (qF<qG))then(
 gu (decide (cY.length+[al.mk qF qG ry].length≤1048576)) (
 Of N eI cD cM cN cO cP cQ cX (cY++[al.mk qF qG ry]) jZ sG))else(
 Of N eI cD cM cN cO cP cQ cX cY jZ sG)
def afh (N:Nat) (cM:ByteArray) (cN:ByteArray) (cO:Int) (cP:Int) (cQ:Int) (cX:List ah) (cY:List al) (v2:ae) (cJ:ZZD)  :Option (ae×(ZZD)×Int):=
 some ((ae.mk cM cN cO cP cQ cX cY),cJ,0)
def Gu (N:Nat) (v20:Int) (dS:List al) (cD:ZZD) (cJ:ZZD) (cM:ByteArray) (cN:ByteArray) (cO:Int) (cP:Int) (cQ:Int) (cX:List ah) (cY:List al) (v2:ae) (eI:Int) (sG:Int→ByteArray→ByteArray→Int→Int→Int→(List ah)→(List al)→Option (ae×(ZZD)×Int)):Option (ae×(ZZD)×Int):=
 bif (decide (eI<v20))then(
 VT N dS eI cD cJ cM cN cO cP cQ cX cY v2 sG)else(
 afh N cM cN cO cP cQ cX cY v2 cJ)
def Jr (N:Nat) (v20:Int) (dS:List al) (cD:ZZD) (cJ:ZZD) (v2:ae)  :Nat→ByteArray→ByteArray→Int→Int→Int→(List ah)→(List al)→Int→Option (ae×(ZZD)×Int) | 0,_,_,_,_,_,_,_,_=>none | n+1,cM,cN,cO,cP,cQ,cX,cY,eI=>Gu N v20 dS cD cJ cM cN cO cP cQ cX cY v2 eI  (fun ar gN gO gP gQ gR gS gT=>Jr N v20 dS cD cJ v2 n gN gO gP gQ gR gS gT ar)
def Og (N:Nat) (cJ:ZZD) (fX:Int) (v1:ae) (cM:ByteArray) (cN:ByteArray) (cO:Int) (cP:Int) (cQ:Int) (cX:List ah) (cY:List al) (v2:ae)  :Option (ae×(ZZD)×Int):=
(abc cJ).bind fun zr=>
 gu (decide (zr.length+[fX].length≤1048576)) (
 Jr N (v1.aI.length:Int) v1.aI (zr++[fX]) cJ v2 N cM cN cO cP cQ cX cY 0)
def Gv (N:Nat) (iG:Int) (dB:List ah) (x1:List Bool) (cJ:ZZD) (cM:ByteArray) (cN:ByteArray) (cO:Int) (cP:Int) (cQ:Int) (cX:List ah) (cY:List al) (fX:Int) (v1:ae) (v2:ae) (cj:Int) (fG:Int→ByteArray→ByteArray→Int→Int→Int→(List ah)→(List al)→Option (ae×(ZZD)×Int)):Option (ae×(ZZD)×Int):=
 bif (decide (cj<iG))then(
 VK N dB cj x1 cJ cM cN cO cP cQ cX cY v1 v2 fG)else(
 Og N cJ fX v1 cM cN cO cP cQ cX cY v2)
def Js (N:Nat) (iG:Int) (dB:List ah) (x1:List Bool) (cJ:ZZD) (fX:Int) (v1:ae) (v2:ae)  :Nat→ByteArray→ByteArray→Int→Int→Int→(List ah)→(List al)→Int→Option (ae×(ZZD)×Int) | 0,_,_,_,_,_,_,_,_=>none | n+1,cM,cN,cO,cP,cQ,cX,cY,cj=>Gv N iG dB x1 cJ cM cN cO cP cQ cX cY fX v1 v2 cj  (fun ar gN gO gP gQ gR gS gT=>Js N iG dB x1 cJ fX v1 v2 n gN gO gP gQ gR gS gT ar)
def VU (N:Nat) (v1:ae) (x1:List Bool) (cM:ByteArray) (cN:ByteArray) (cO:Int) (cP:Int) (cQ:Int) (cX:List ah) (cY:List al) (v2:ae) (cJ:ZZD) (fX:Int)  :Option (ae×(ZZD)×Int):=
 Js N (v1.ab.length:Int) v1.ab x1 cJ fX v1 v2 N cM cN cO cP cQ cX cY 0
def Gw (N:Nat) (kO:Int) (x1:List Bool) (v1:ae) (cM:ByteArray) (cN:ByteArray) (cO:Int) (cP:Int) (cQ:Int) (cX:List ah) (cY:List al) (v2:ae) (lN:ZZD) (iL:Int) (dv:Int) (sF:(ZZD)→Int→Int→ByteArray→ByteArray→Int→Int→Int→(List ah)→(List al)→Option (ae×(ZZD)×Int)):Option (ae×(ZZD)×Int):=
 bif (decide (dv<kO))then(
 VB N x1 dv iL lN v1 cM cN cO cP cQ cX cY v2 sF)else(
 VU N v1 x1 cM cN cO cP cQ cX cY v2 lN iL)
def Oh (N:Nat) (kO:Int) (x1:List Bool) (v1:ae) (v2:ae)  :Nat→ByteArray→ByteArray→Int→Int→Int→(List ah)→(List al)→(ZZD)→Int→Int→Option (ae×(ZZD)×Int) | 0,_,_,_,_,_,_,_,_,_,_=>none | n+1,cM,cN,cO,cP,cQ,cX,cY,lN,iL,dv=>Gw N kO x1 v1 cM cN cO cP cQ cX cY v2 lN iL dv  (fun ar cd zt gN gO gP gQ gR gS gT=>Oh N kO x1 v1 v2 n gN gO gP gQ gR gS gT ar cd zt)
def Oi (N:Nat) (v1:ae) (x1:List Bool) (v2:ae)  :Option (ae×(ZZD)×Int):=
 Oh N (x1.length:Int) x1 v1 v2 N v1.aC v1.ay v1.fArgs v1.aE v1.aD ([]:List ah) ([]:List al) ([]:ZZD) 0 0
def VV (N:Nat) (x1:List Bool) (v2:ae) (v1:ae)  :Option (ae×(ZZD)×Int):=
(ix x1 (bN .i64 ((x1.length:Int)-1))).bind fun jw=>
 bif (!jw)then(
 some ((ae.mk (⟨⟨[]⟩⟩:ByteArray) (⟨⟨[]⟩⟩:ByteArray) 0 0 0 ([]:List ah) ([]:List al)),([]:ZZD),2))else(
 Oi N v1 x1 v2)
def Oj (N:Nat) (v2:ae) (x1:List Bool) (v1:ae) (qS:Bool)  :Option (ae×(ZZD)×Int):=
 bif qS then(
 some ((ae.mk (⟨⟨[]⟩⟩:ByteArray) (⟨⟨[]⟩⟩:ByteArray) 0 0 0 ([]:List ah) ([]:List al)),([]:ZZD),1))else(
 VV N x1 v2 v1)
def IY (N:Nat) (x0:ae) (x1:List Bool):Option (ae×(ZZD)×Int):=
(Dc N x0).bind fun ru=>
 bif (!ru)then(
 Oj N (ae.mk (⟨⟨[]⟩⟩:ByteArray) (⟨⟨[]⟩⟩:ByteArray) 0 0 0 ([]:List ah) ([]:List al)) x1 x0 true)else(
 Oj N (ae.mk (⟨⟨[]⟩⟩:ByteArray) (⟨⟨[]⟩⟩:ByteArray) 0 0 0 ([]:List ah) ([]:List al)) x1 x0 (!decide ((x1.length:Int)=(x0.ab.length:Int))))
abbrev nh (c:Cx) (R:ZZF) (r:ae×(ZZD)×Int):Prop:=∀(g' h':AH) (w1:Z) (w2:Z) (w3:Z),Sep c g' h' []→aa ah.rep 4 g' w1 r.1.ab→aa al.rep 3 g' w2 r.1.aI→aa (rI .i64) 1 g' w3 r.2.1→R (.tuple ⟨[(.agg ⟨[.string r.1.aC,.string r.1.ay,vi r.1.fArgs,vi r.1.aE,vi r.1.aD,w1,w2]⟩),w3,vi r.2.2]⟩) h'
theorem ape {w0 c g h E R r N dv Hr Hs jW zk zl zm zn zo zp zq jX apf apg Ol Gx Gy Om On Oo Oq Ot Ou Gz GA rV sF Di}(M:Oc N dv Hr Hs jW zk zl zm zn zo zp zq jX sF=some r)(S:Sep c g h [.sl 3 1 apf apg,.bx Ol (ZZA jW Gx Gy),.bx Om [.string zk,.string zl,vi zm,vi zn,vi zo,On,Oq],.sl 67 4 On Oo,.sl 79 3 Oq Ot,.bx Ou (ZZA jX Gz GA)])(aCi:aw ((rI .i64) g) apg Hr)(afi:aa ah.rep 4 g Gx jW.ab)(afj:aa al.rep 3 g Gy jW.aI)(VW:aw (ah.rep g) Oo zp)(VX:aw (al.rep g) Ot zq)(afk:aa ah.rep 4 g Gz jX.ab)(afl:aa al.rep 3 g GA jX.aI)(Jt:Sub Di g)(Ju:∀{ar:ZZD}{ft:Z}{fu:List (ZZE)}{cd zt:Int}{gN gO:ByteArray}{gP gQ gR:Int}{gS:List ah}{jl:Z}{jm:List (ZZE)}{gT:List al}{jo:Z}{jq:List (ZZE)}{g2 h2:AH},sF ar cd zt gN gO gP gQ gR gS gT=some r→Sub Di g2→Sep c g2 h2 [.bx Ol (ZZA jW Gx Gy),.bx Om [.string gN,.string gO,vi gP,vi gQ,vi gR,jl,jo],.sl 67 4 jl jm,.sl 79 3 jo jq,.bx Ou (ZZA jX Gz GA),.sl 3 1 ft fu]→aw ((rI .i64) g2) fu ar→aw (ah.rep g2) jm gS→aw (al.rep g2) jq gT→rV ft (vi cd) (vi zt) h2)(H:nh c R r):R6 w0 E R (vi dv) rV apf (vi Hs) h:=by
 unfold R6;unfold Oc at M;refine gE.2 ?_;have S:=S.f5.f5.f5.f5.f5;exact Ju M Jt S aCi VW VX
theorem aCj {w0 c g h E R r N x1 dv iL lN jW zk zl zm zn zo zp zq jX bV zu xC Ol Gx Gy Om On Oo Oq Ot Ou Gz GA rV sF Di}(M:VB N x1 dv iL lN jW zk zl zm zn zo zp zq jX sF=some r)(S:Sep c g h [.sl 3 1 zu xC,.bx Ol (ZZA jW Gx Gy),.bx Om [.string zk,.string zl,vi zm,vi zn,vi zo,On,Oq],.sl 67 4 On Oo,.sl 79 3 Oq Ot,.bx Ou (ZZA jX Gz GA)])(cn:aa rB 1 g bV x1)(Bn:aw ((rI .i64) g) xC lN)(afi:aa ah.rep 4 g Gx jW.ab)(afj:aa al.rep 3 g Gy jW.aI)(VW:aw (ah.rep g) Oo zp)(VX:aw (al.rep g) Ot zq)(afk:aa ah.rep 4 g Gz jX.ab)(afl:aa al.rep 3 g GA jX.aI)(Jt:Sub Di g)(Ju:∀{ar:ZZD}{ft:Z}{fu:List (ZZE)}{cd zt:Int}{gN gO:ByteArray}{gP gQ gR:Int}{gS:List ah}{jl:Z}{jm:List (ZZE)}{gT:List al}{jo:Z}{jq:List (ZZE)}{g2 h2:AH},sF ar cd zt gN gO gP gQ gR gS gT=some r→Sub Di g2→Sep c g2 h2 [.bx Ol (ZZA jW Gx Gy),.bx Om [.string gN,.string gO,vi gP,vi gQ,vi gR,jl,jo],.sl 67 4 jl jm,.sl 79 3 jo jq,.bx Ou (ZZA jX Gz GA),.sl 3 1 ft fu]→aw ((rI .i64) g2) fu ar→aw (ah.rep g2) jm gS→aw (al.rep g2) jq gT→rV ft (vi cd) (vi zt) h2)(H:nh c R r):ZQ w0 E R bV (vi dv) (vi iL) zu rV h:=by
 unfold ZQ;unfold VB at M;obtain⟨ML,ad5,M⟩:=bind_some M;refine aa.idx cn ad5 (fun aKs aKt vs aph aCk rp=>?_);cases rp;refine S.dK (aCk 0 _ rfl) (S.tp [[vi iL]] (rn (m:=[vi iL]) (l2:=[vi iL]) rfl rfl (zaa rfl) rfl rfl) rfl (by decide) (vn rfl tq) (ag rfl rfl) (fun aKu h S=>?_));have Ov:aw ((rI .i64) g) [[vi iL]] [iL]:=(aw.push aw.nil (show(rI .i64) g [vi iL] iL from rfl));have S:=S.f1;obtain⟨aCl,M⟩:=nE M;refine S.app (S.rd 1 rfl) (by rw [Bn.1,Ov.1];exact aCl) (by decide) rfl (nF (rY .i64) Ov) (nF (rY .i64) Bn) (fun afm h S=>?_);have VY:aw ((rI .i64) g) (xC++[[vi iL]]) (lN++[iL]):=aw.append Bn Ov;refine bR (fun hc=>?_) (fun hc=>?_)
 · have M:=aV hc M;refine gE.2 ?_;have S:=S.f6.f6.f6.f6.f6.f5.t6;exact ape M S VY afi afj VW VX afk afl Jt Ju H
 · have M:=aX hc M;have S:=S.f6.f6.f6.f6.f6.f5.t6;exact ape M S VY afi afj VW VX afk afl Jt Ju H
theorem api {w0 c g h E R r N cj vr VC VD VE VF VG VH VI de dh Dj zv apj apk apl apm apn uc pg ph ud pk po fF fG lH}(M:Od N cj vr VC VD VE VF VG VH VI de dh fG=some r)(S:Sep c g h [.sl 3 1 Dj zv,.bx apj [.string VC,.string VD,vi VE,vi VF,vi VG,apk,apm],.sl 67 4 apk apl,.sl 79 3 apm apn,.bx uc (ZZA de pg ph),.bx ud (ZZA dh pk po)])(VZ:aw ((rI .i64) g) zv vr)(aCm:aw (ah.rep g) apl VH)(aCn:aw (al.rep g) apn VI)(wm:aa ah.rep 4 g pg de.ab)(wo:aa al.rep 3 g ph de.aI)(wq:aa ah.rep 4 g pk dh.ab)(wu:aa al.rep 3 g po dh.aI)(nV:Sub lH g)(nW:∀{ar:Int}{gN gO:ByteArray}{gP gQ gR:Int}{gS:List ah}{jl:Z}{jm:List (ZZE)}{gT:List al}{jo:Z}{jq:List (ZZE)}{g2 h2:AH},fG ar gN gO gP gQ gR gS gT=some r→Sub lH g2→Sep c g2 h2 [.sl 3 1 Dj zv,.bx apj [.string gN,.string gO,vi gP,vi gQ,vi gR,jl,jo],.sl 67 4 jl jm,.sl 79 3 jo jq,.bx uc (ZZA de pg ph),.bx ud (ZZA dh pk po)]→aw (ah.rep g2) jm gS→aw (al.rep g2) jq gT→fF (vi ar) h2)(H:nh c R r):R3 w0 E R (vi cj) fF h:=by
 unfold R3;unfold Od at M;refine gE.2 ?_;exact nW M nV S aCm aCn
theorem afn {w0 c g h E R r N cM cN cO cP cQ cX cY bX cj vr de dh bA fa fH fb fJ Dk Dj zv uc pg ph ud pk po fF fG lH}(M:Jq N cM cN cO cP cQ cX cY bX cj vr de dh fG=some r)(S:Sep c g h [.bx bA [.string cM,.string cN,vi cO,vi cP,vi cQ,fa,fb],.sl 67 4 fa fH,.sl 79 3 fb fJ,.bx Dk (ZZC bX),.sl 3 1 Dj zv,.bx uc (ZZA de pg ph),.bx ud (ZZA dh pk po)])(gm:aw (ah.rep g) fH cX)(fW:aw (al.rep g) fJ cY)(VZ:aw ((rI .i64) g) zv vr)(wm:aa ah.rep 4 g pg de.ab)(wo:aa al.rep 3 g ph de.aI)(wq:aa ah.rep 4 g pk dh.ab)(wu:aa al.rep 3 g po dh.aI)(nV:Sub lH g)(nW:∀{ar:Int}{gN gO:ByteArray}{gP gQ gR:Int}{gS:List ah}{jl:Z}{jm:List (ZZE)}{gT:List al}{jo:Z}{jq:List (ZZE)}{g2 h2:AH},fG ar gN gO gP gQ gR gS gT=some r→Sub lH g2→Sep c g2 h2 [.sl 3 1 Dj zv,.bx bA [.string gN,.string gO,vi gP,vi gQ,vi gR,jl,jo],.sl 67 4 jl jm,.sl 79 3 jo jq,.bx uc (ZZA de pg ph),.bx ud (ZZA dh pk po)]→aw (ah.rep g2) jm gS→aw (al.rep g2) jq gT→fF (vi ar) h2)(H:nh c R r):KM w0 E R (ak bA 0) (ak Dk 0) (vi cj) fF h:=by
 unfold KM;unfold Jq at M;refine aQ.2 (S.aP 0 rfl rfl (S.eA (ZZC bX) 3 rfl rfl rfl (by decide) (S.tp [(ZZC bX)] (rn (m:=(ZZC bX)) (l2:=(ZZC bX)) rfl rfl (zaa rfl) rfl rfl) rfl (by decide) (vn rfl tq) (ag rfl (ag rfl (ag rfl (ag rfl rfl)))) (fun aKv h S=>?_))));have afo:aw (ah.rep g) [(ZZC bX)] [bX]:=(aw.push aw.nil (show ah.rep g (ZZC bX) bX from rfl));have S:=S.f2;obtain⟨aCo,M⟩:=nE M;refine S.app (S.rd 1 rfl) (by rw [gm.1,afo.1];exact aCo) (by decide) rfl (nF ah.one afo) (nF ah.one gm) (fun apo h S=>?_);have aCp:aw (ah.rep g) (fH++[(ZZC bX)]) (cX++[bX]):=aw.append gm afo;refine aQ.2 ?_;have S:=S.f2;refine S.cV [apo] [.string cM,.string cN,vi cO,vi cP,vi cQ,apo,fb] (mE (S.kX 1 rfl)) rfl (ag (S.kX 1 rfl) rfl) (zaa rfl) rfl (fun h S=>?_);have S:=S.f7.f7.f5.f4.f4.f7.t6;exact api M S VZ aCp fW wm wo wq wu nV nW H
theorem apq {w0 c g h E R r N bX cJ cM cN cO cP cQ cX cY cj Hq de dh Dk iD mm bA fa fH fb fJ uc pg ph ud pk po fF fG lH}(M:Oe N bX cJ cM cN cO cP cQ cX cY cj Hq de dh fG=some r)(S:Sep c g h [.bx Dk (ZZC bX),.sl 3 1 iD mm,.bx bA [.string cM,.string cN,vi cO,vi cP,vi cQ,fa,fb],.sl 67 4 fa fH,.sl 79 3 fb fJ,.bx uc (ZZA de pg ph),.bx ud (ZZA dh pk po)])(ni:aw ((rI .i64) g) mm cJ)(gm:aw (ah.rep g) fH cX)(fW:aw (al.rep g) fJ cY)(wm:aa ah.rep 4 g pg de.ab)(wo:aa al.rep 3 g ph de.aI)(wq:aa ah.rep 4 g pk dh.ab)(wu:aa al.rep 3 g po dh.aI)(nV:Sub lH g)(nW:∀{ar:Int}{gN gO:ByteArray}{gP gQ gR:Int}{gS:List ah}{jl:Z}{jm:List (ZZE)}{gT:List al}{jo:Z}{jq:List (ZZE)}{g2 h2:AH},fG ar gN gO gP gQ gR gS gT=some r→Sub lH g2→Sep c g2 h2 [.sl 3 1 iD mm,.bx bA [.string gN,.string gO,vi gP,vi gQ,vi gR,jl,jo],.sl 67 4 jl jm,.sl 79 3 jo jq,.bx uc (ZZA de pg ph),.bx ud (ZZA dh pk po)]→aw (ah.rep g2) jm gS→aw (al.rep g2) jq gT→fF (vi ar) h2)(H:nh c R r):R4 w0 E R (ak Dk 0) iD (ak bA 0) (vi cj) fF (.bool Hq) h:=by
 unfold R4;unfold Oe at M;refine bR (fun hc=>?_) (fun hc=>?_)
 · have M:=aV hc M;refine aQ.2 (S.aP 0 rfl rfl ?_);obtain⟨FZ,aem,M⟩:=bind_some M;refine S.mF 1 rfl ni aem (fun aAE aAF vs apr aCq rp=>?_);cases rp;refine S.tU (j:=0) 1 rfl apr aCq rfl (aQ.2 (S.cV [vi FZ] [vi bX.aJ,vi bX.fA,vi FZ,vi bX.fC] rfl rfl (ag rfl rfl) (zaa rfl) rfl (fun h S=>?_)));have S:=S.f6.f6.f3.f3.f6.f6.f6;exact afn M S gm fW ni wm wo wq wu nV nW H
 · have M:=aX hc M;have S:=S.f6.f6.f3.f3.f6.f6.f6;exact afn M S gm fW ni wm wo wq wu nV nW H
theorem aCr {w0 c g h E R r N bX cJ cM cN cO cP cQ cX cY cj de dh Dk iD mm bA fa fH fb fJ uc pg ph ud pk po fF fG lH}(M:VJ N bX cJ cM cN cO cP cQ cX cY cj de dh fG=some r)(S:Sep c g h [.bx Dk (ZZC bX),.sl 3 1 iD mm,.bx bA [.string cM,.string cN,vi cO,vi cP,vi cQ,fa,fb],.sl 67 4 fa fH,.sl 79 3 fb fJ,.bx uc (ZZA de pg ph),.bx ud (ZZA dh pk po)])(ni:aw ((rI .i64) g) mm cJ)(gm:aw (ah.rep g) fH cX)(fW:aw (al.rep g) fJ cY)(wm:aa ah.rep 4 g pg de.ab)(wo:aa al.rep 3 g ph de.aI)(wq:aa ah.rep 4 g pk dh.ab)(wu:aa al.rep 3 g po dh.aI)(nV:Sub lH g)(nW:∀{ar:Int}{gN gO:ByteArray}{gP gQ gR:Int}{gS:List ah}{jl:Z}{jm:List (ZZE)}{gT:List al}{jo:Z}{jq:List (ZZE)}{g2 h2:AH},fG ar gN gO gP gQ gR gS gT=some r→Sub lH g2→Sep c g2 h2 [.sl 3 1 iD mm,.bx bA [.string gN,.string gO,vi gP,vi gQ,vi gR,jl,jo],.sl 67 4 jl jm,.sl 79 3 jo jq,.bx uc (ZZA de pg ph),.bx ud (ZZA dh pk po)]→aw (ah.rep g2) jm gS→aw (al.rep g2) jq gT→fF (vi ar) h2)(H:nh c R r):ZN w0 E R (ak Dk 0) iD (ak bA 0) (vi cj) fF h:=by
 unfold ZN;unfold VJ at M;refine aQ.2 (S.aP 0 rfl rfl (gr.2 (bR (fun hc=>?_) (fun hc=>?_))))
 · have M:=aV hc M;refine aQ.2 (S.aP 0 rfl rfl ?_);obtain⟨j8,F9,M⟩:=bind_some M;refine S.mF 1 rfl ni F9 (fun aps apt vs afp afq rp=>?_);cases rp;refine S.tU (j:=0) 1 rfl afp afq rfl (aQ.2 (S.cV [vi j8] [vi bX.aJ,vi j8,vi bX.fB,vi bX.fC] rfl rfl (ag rfl rfl) (zaa rfl) rfl (fun h S=>?_)));have S:=S.f6.f6.f3.f3.f6.f6.f6;exact afn M S gm fW ni wm wo wq wu nV nW H
 · have M:=aX hc M;refine gr.2 (bR (fun hc=>?_) (fun hc=>?_))
   · have M:=aV hc M;exact apq M S ni gm fW wm wo wq wu nV nW H
   · have M:=aX hc M;refine gr.2 ?_;exact apq M S ni gm fW wm wo wq wu nV nW H
theorem aCs {w0 c g h E R r N dB cj x1 cJ cM cN cO cP cQ cX cY de dh Dl bV iD mm bA fa fH fb fJ uc pg ph ud pk po fF fG lH}(M:VK N dB cj x1 cJ cM cN cO cP cQ cX cY de dh fG=some r)(S:Sep c g h [.sl 3 1 iD mm,.bx bA [.string cM,.string cN,vi cO,vi cP,vi cQ,fa,fb],.sl 67 4 fa fH,.sl 79 3 fb fJ,.bx uc (ZZA de pg ph),.bx ud (ZZA dh pk po)])(GB:aa ah.rep 4 g Dl dB)(cn:aa rB 1 g bV x1)(ni:aw ((rI .i64) g) mm cJ)(gm:aw (ah.rep g) fH cX)(fW:aw (al.rep g) fJ cY)(wm:aa ah.rep 4 g pg de.ab)(wo:aa al.rep 3 g ph de.aI)(wq:aa ah.rep 4 g pk dh.ab)(wu:aa al.rep 3 g po dh.aI)(nV:Sub lH g)(nW:∀{ar:Int}{gN gO:ByteArray}{gP gQ gR:Int}{gS:List ah}{jl:Z}{jm:List (ZZE)}{gT:List al}{jo:Z}{jq:List (ZZE)}{g2 h2:AH},fG ar gN gO gP gQ gR gS gT=some r→Sub lH g2→Sep c g2 h2 [.sl 3 1 iD mm,.bx bA [.string gN,.string gO,vi gP,vi gQ,vi gR,jl,jo],.sl 67 4 jl jm,.sl 79 3 jo jq,.bx uc (ZZA de pg ph),.bx ud (ZZA dh pk po)]→aw (ah.rep g2) jm gS→aw (al.rep g2) jq gT→fF (vi ar) h2)(H:nh c R r):ZO w0 E R Dl (vi cj) bV fF iD (ak bA 0) h:=by
 unfold ZO;unfold VK at M;obtain⟨ia,GC,M⟩:=bind_some M;refine aa.idx GB GC (fun apu apv vs apw Ow rp=>?_);cases rp;refine S.iX Ow rfl (by decide) (S.alloc (l:=[vi 0,vi 0,vi 0,vi 0]) (ag rfl (ag rfl (ag rfl (ag rfl rfl)))) (fun Jv h S=>?_));refine S.cV (ZZC ia) (ZZC ia) rfl rfl (ag rfl (ag rfl (ag rfl (ag rfl rfl)))) (zaa rfl) rfl (fun h S=>?_);obtain⟨jY,Bo,M⟩:=bind_some M;refine aa.idx cn Bo (fun aCt aCu vs aCv afr rp=>?_);cases rp;refine S.dK (afr 0 _ rfl) (dZ.2 (bR (fun hc=>?_) (fun hc=>?_)))
 · have M:=aV hc M;have S:=S.f6.f6.f6.f6.f6.f6.t6;exact api M S ni gm fW wm wo wq wu nV nW H
 · have M:=aX hc M;exact aCr M S ni gm fW wm wo wq wu nV nW H
theorem apx {w0 c g h E R r N eI afg VL VM VN VO VP VQ VS jZ apy afs apz apA apB apC apD Ox GD GF rU sG Dm}(M:Of N eI afg VL VM VN VO VP VQ VS jZ sG=some r)(S:Sep c g h [.sl 3 1 apy afs,.bx apz [.string VL,.string VM,vi VN,vi VO,vi VP,apA,apC],.sl 67 4 apA apB,.sl 79 3 apC apD,.bx Ox (ZZA jZ GD GF)])(aKw:aw ((rI .i64) g) afs afg)(aCw:aw (ah.rep g) apB VQ)(aCx:aw (al.rep g) apD VS)(aft:aa ah.rep 4 g GD jZ.ab)(afu:aa al.rep 3 g GF jZ.aI)(Jw:Sub Dm g)(Jx:∀{ar:Int}{gN gO:ByteArray}{gP gQ gR:Int}{gS:List ah}{jl:Z}{jm:List (ZZE)}{gT:List al}{jo:Z}{jq:List (ZZE)}{g2 h2:AH},sG ar gN gO gP gQ gR gS gT=some r→Sub Dm g2→Sep c g2 h2 [.sl 3 1 apy afs,.bx apz [.string gN,.string gO,vi gP,vi gQ,vi gR,jl,jo],.sl 67 4 jl jm,.sl 79 3 jo jq,.bx Ox (ZZA jZ GD GF)]→aw (ah.rep g2) jm gS→aw (al.rep g2) jq gT→rU (vi ar) h2)(H:nh c R r):RZ w0 E R (vi eI) rU h:=by
 unfold RZ;unfold Of at M;refine gE.2 ?_;exact Jx M Jw S aCw aCx
theorem aCy {w0 c g h E R r N dS eI cD cJ cM cN cO cP cQ cX cY jZ Dn zw zx iD bA fa fH fb fJ Ox GD GF rU sG Dm}(M:VT N dS eI cD cJ cM cN cO cP cQ cX cY jZ sG=some r)(S:Sep c g h [.sl 3 1 zw zx,.bx bA [.string cM,.string cN,vi cO,vi cP,vi cQ,fa,fb],.sl 67 4 fa fH,.sl 79 3 fb fJ,.bx Ox (ZZA jZ GD GF)])(GG:aa al.rep 3 g Dn dS)(zy:aw ((rI .i64) g) zx cD)(ue:aa (rI .i64) 1 g iD cJ)(gm:aw (ah.rep g) fH cX)(fW:aw (al.rep g) fJ cY)(aft:aa ah.rep 4 g GD jZ.ab)(afu:aa al.rep 3 g GF jZ.aI)(Jw:Sub Dm g)(Jx:∀{ar:Int}{gN gO:ByteArray}{gP gQ gR:Int}{gS:List ah}{jl:Z}{jm:List (ZZE)}{gT:List al}{jo:Z}{jq:List (ZZE)}{g2 h2:AH},sG ar gN gO gP gQ gR gS gT=some r→Sub Dm g2→Sep c g2 h2 [.sl 3 1 zw zx,.bx bA [.string gN,.string gO,vi gP,vi gQ,vi gR,jl,jo],.sl 67 4 jl jm,.sl 79 3 jo jq,.bx Ox (ZZA jZ GD GF)]→aw (ah.rep g2) jm gS→aw (al.rep g2) jq gT→rU (vi ar) h2)(H:nh c R r):ZL w0 E R Dn (vi eI) zw iD (ak bA 0) rU h:=by
 unfold ZL;unfold VT at M;obtain⟨tS,aeg,M⟩:=bind_some M;refine aa.idx GG aeg (fun aKx aKy vs aKz aCz rp=>?_);cases rp;refine S.iX aCz rfl (by decide) (S.alloc (l:=[vi 0,vi 0,vi 0]) (ag rfl (ag rfl (ag rfl rfl))) (fun aCA h S=>?_));refine S.cV [vi tS.dk,vi tS.dO,vi tS.bG] [vi tS.dk,vi tS.dO,vi tS.bG] rfl rfl (ag rfl (ag rfl (ag rfl rfl))) (zaa rfl) rfl (fun h S=>?_);refine aQ.2 (S.aP 0 rfl rfl ?_);obtain⟨qF,aCB,M⟩:=bind_some M;refine S.mF 1 rfl zy aCB (fun aKA aKB vs aCC aCD rp=>?_);cases rp;refine S.tU (j:=0) 1 rfl aCC aCD rfl (aQ.2 (S.aP 0 rfl rfl ?_));obtain⟨qG,aCE,M⟩:=bind_some M;refine S.mF 1 rfl zy aCE (fun aKC aKD vs aCF aCG rp=>?_);cases rp;refine S.tU (j:=0) 1 rfl aCF aCG rfl (aQ.2 (S.aP 0 rfl rfl ?_));obtain⟨ry,aCH,M⟩:=bind_some M;refine aa.idx ue aCH (fun aKE aKF vs aKG aCI rp=>?_);cases rp;refine S.dK (aCI 0 _ rfl) (Jb [vi qF,vi qG,vi ry] (by simp only [tN,sr,su,sv,sw,  zaE,zbu,Nat.reduceAdd,zav,zaK,zbo]) (by simp only [zaA,zbr,sr,su,sv,sw,  za2,zaU,zaS]) (S.alloc (l:=[vi 0,vi 0,vi 0]) (ag rfl (ag rfl (ag rfl rfl))) (fun aKH h S=>?_)));refine S.cV [vi qF,vi qG,vi ry] [vi qF,vi qG,vi ry] rfl rfl (ag rfl (ag rfl (ag rfl rfl))) (zaa rfl) rfl (fun h S=>?_);refine aQ.2 (S.aP 0 rfl rfl (aQ.2 (S.aP 0 rfl rfl (fj.2 (bR (fun hc=>?_) (fun hc=>?_))))))
 · have M:=aV hc M;refine aQ.2 (S.aP 3 rfl rfl (S.eA [vi qF,vi qG,vi ry] 0 rfl rfl rfl (by decide) (S.tp [[vi qF,vi qG,vi ry]] (rn (m:=[vi qF,vi qG,vi ry]) (l2:=[vi qF,vi qG,vi ry]) rfl rfl (zaa rfl) rfl rfl) rfl (by decide) (vn rfl tq) (ag rfl (ag rfl (ag rfl rfl))) (fun aKI h S=>?_))));have afv:aw (al.rep g) [[vi qF,vi qG,vi ry]] [al.mk qF qG ry]:=(aw.push aw.nil (show al.rep g [vi qF,vi qG,vi ry] (al.mk qF qG ry)from rfl));have S:=S.f6;obtain⟨aCJ,M⟩:=nE M;refine S.app (S.rd 1 rfl) (by rw [fW.1,afv.1];exact aCJ) (by decide) rfl (nF al.one afv) (nF al.one fW) (fun apE h S=>?_);have aCK:aw (al.rep g) (fJ++[[vi qF,vi qG,vi ry]]) (cY++[al.mk qF qG ry]):=aw.append fW afv;refine aQ.2 ?_;have S:=S.f5;refine S.cV [apE] [.string cM,.string cN,vi cO,vi cP,vi cQ,fa,apE] (mE (S.kX 1 rfl)) rfl (ag (S.kX 1 rfl) rfl) (zaa rfl) rfl (fun h S=>?_);have S:=S.f7.f2.f7.f3.f7.t5;exact apx M S zy gm aCK aft afu Jw Jx H
 · have M:=aX hc M;have S:=S.f6.f6.f6.f6.f6.t5;exact apx M S zy gm fW aft afu Jw Jx H
theorem aCL {w0 c g h E R r N cM cN cO cP cQ cX cY v2 cJ bA fa fH fb fJ aK bf bg iD}  (M:afh N cM cN cO cP cQ cX cY v2 cJ=some r)(S:Sep c g h [.bx bA [.string cM,.string cN,vi cO,vi cP,vi cQ,fa,fb],.sl 67 4 fa fH,.sl 79 3 fb fJ,.bx aK (ZZA v2 bf bg)])(gm:aw (ah.rep g) fH cX)(fW:aw (al.rep g) fJ cY)(bj:aa ah.rep 4 g bf v2.ab)(bz:aa al.rep 3 g bg v2.aI)(ue:aa (rI .i64) 1 g iD cJ)  (H:nh c R r):ZK w0 E R (ak bA 0) (ak aK 0) iD h:=by
 unfold ZK;unfold afh at M;refine S.eA [.string cM,.string cN,vi cO,vi cP,vi cQ,fa,fb] 0 rfl rfl rfl (by decide) ?_;have S:=S.f3;refine S.cV [.string cM,.string cN,vi cO,vi cP,vi cQ,fa,fb] [.string cM,.string cN,vi cO,vi cP,vi cQ,fa,fb] rfl rfl (ag rfl (ag rfl (ag rfl (ag rfl (ag rfl (ag (S.kX 2 rfl) (ag (S.kX 3 rfl) rfl))))))) (zaa rfl) rfl (fun h S=>?_);refine S.eA [.string cM,.string cN,vi cO,vi cP,vi cQ,fa,fb] 0 rfl rfl rfl (by decide) ?_;have S:=S.f2;obtain⟨g,sg,S,Nr⟩:=S.fz gm ah.mono;have ue:=aa.mono ue (eD .i64) sg;have fW:=aw.mono fW (fun _ _ hh=>al.mono _ _ _ _ sg hh);have S:=S.f2;obtain⟨g,sg,S,afw⟩:=S.fz fW al.mono;have ue:=aa.mono ue (eD .i64) sg;have Nr:=aa.mono Nr ah.mono sg;cases M;exact H _ _ fa fb iD S.bO Nr afw ue
theorem aCM {w0 c g h E R r N v20 dS cD cJ cM cN cO cP cQ cX cY v2 eI Dn zw zx iD bA fa fH fb fJ aK bf bg rU sG Dm}(M:Gu N v20 dS cD cJ cM cN cO cP cQ cX cY v2 eI sG=some r)(S:Sep c g h [.sl 3 1 zw zx,.bx bA [.string cM,.string cN,vi cO,vi cP,vi cQ,fa,fb],.sl 67 4 fa fH,.sl 79 3 fb fJ,.bx aK (ZZA v2 bf bg)])(GG:aa al.rep 3 g Dn dS)(zy:aw ((rI .i64) g) zx cD)(ue:aa (rI .i64) 1 g iD cJ)(gm:aw (ah.rep g) fH cX)(fW:aw (al.rep g) fJ cY)(bj:aa ah.rep 4 g bf v2.ab)(bz:aa al.rep 3 g bg v2.aI)(Jw:Sub Dm g)(Jx:∀{ar:Int}{gN gO:ByteArray}{gP gQ gR:Int}{gS:List ah}{jl:Z}{jm:List (ZZE)}{gT:List al}{jo:Z}{jq:List (ZZE)}{g2 h2:AH},sG ar gN gO gP gQ gR gS gT=some r→Sub Dm g2→Sep c g2 h2 [.sl 3 1 zw zx,.bx bA [.string gN,.string gO,vi gP,vi gQ,vi gR,jl,jo],.sl 67 4 jl jm,.sl 79 3 jo jq,.bx aK (ZZA v2 bf bg)]→aw (ah.rep g2) jm gS→aw (al.rep g2) jq gT→rU (vi ar) h2)(H:nh c R r):R0 w0 E R (vi v20) Dn zw iD (ak bA 0) (ak aK 0) rU (vi eI) h:=by
 unfold R0;unfold Gu at M;refine fj.2 (bR (fun hc=>?_) (fun hc=>?_))
 · have M:=aV hc M;exact aCy M S GG zy ue gm fW bj bz Jw Jx H
 · have M:=aX hc M;have S:=S.f4.f4.f4.f4.t4;exact aCL M S gm fW bj bz ue H
theorem aCN {w0 c E R r N v20 dS cD cJ v2 Dn zw zx iD bA aK bf bg}   (H:nh c R r):∀(n:Nat){cM cN:ByteArray}{cO cP cQ:Int}{cX:List ah}{cY:List al}{eI:Int}{fa:Z}{fH:List (ZZE)}{fb:Z}{fJ:List (ZZE)}{g h:AH},Jr N v20 dS cD cJ v2 n cM cN cO cP cQ cX cY eI=some r→Sep c g h [.sl 3 1 zw zx,.bx bA [.string cM,.string cN,vi cO,vi cP,vi cQ,fa,fb],.sl 67 4 fa fH,.sl 79 3 fb fJ,.bx aK (ZZA v2 bf bg)]→aa al.rep 3 g Dn dS→aw ((rI .i64) g) zx cD→aa (rI .i64) 1 g iD cJ→aw (ah.rep g) fH cX→aw (al.rep g) fJ cY→aa ah.rep 4 g bf v2.ab→aa al.rep 3 g bg v2.aI→gg (α:=Z) (fun k a=>R0 w0 E R (vi v20) Dn zw iD (ak bA 0) (ak aK 0) k a) n (vi eI) h:=by
 intro n
 induction n with
 | zero=>
  intro cM cN cO cP cQ cX cY eI fa fH fb fJ g h M S GG zy ue gm fW bj bz ;unfold Jr at M;cases M
 | succ n ih=>
  intro cM cN cO cP cQ cX cY eI fa fH fb fJ g h M S GG zy ue gm fW bj bz ;exact aCM M S GG zy ue gm fW bj bz  (Sub.refl g) (fun M2 sub S2 Oy Oz=>ih M2 S2 (aa.mono GG al.mono sub) (aw.mono zy (fun _ _ hh=>(eD .i64) _ _ _ _ sub hh)) (aa.mono ue (eD .i64) sub) Oy Oz (aa.mono bj ah.mono sub) (aa.mono bz al.mono sub)) H
theorem aCO {w0 c g h E R r N cJ fX v1 cM cN cO cP cQ cX cY v2 iD mm av aA az bA fa fH fb fJ aK bf bg}  (M:Og N cJ fX v1 cM cN cO cP cQ cX cY v2=some r)(S:Sep c g h [.sl 3 1 iD mm,.bx av (ZZA v1 aA az),.bx bA [.string cM,.string cN,vi cO,vi cP,vi cQ,fa,fb],.sl 67 4 fa fH,.sl 79 3 fb fJ,.bx aK (ZZA v2 bf bg)])(ni:aw ((rI .i64) g) mm cJ)(aH:aa ah.rep 4 g aA v1.ab)(aG:aa al.rep 3 g az v1.aI)(gm:aw (ah.rep g) fH cX)(fW:aw (al.rep g) fJ cY)(bj:aa ah.rep 4 g bf v2.ab)(bz:aa al.rep 3 g bg v2.aI)  (H:nh c R r):ZM w0 E R iD (vi fX) (ak av 0) (ak bA 0) (ak aK 0) h:=by
 unfold ZM;unfold Og at M;obtain⟨g,sg,S,V0⟩:=S.fz ni (eD .i64);have aH:=aa.mono aH ah.mono sg;have aG:=aa.mono aG al.mono sg;have gm:=aw.mono gm (fun _ _ hh=>ah.mono _ _ _ _ sg hh);have fW:=aw.mono fW (fun _ _ hh=>al.mono _ _ _ _ sg hh);have bj:=aa.mono bj ah.mono sg;have bz:=aa.mono bz al.mono sg;obtain⟨zr,GH,M⟩:=bind_some M;refine auj cJ iD S.sub S.ok V0 GH (fun g h apF aCP S1 afx=>?_);have V0:=aa.mono V0 (eD .i64) S1.bF;have aH:=aa.mono aH ah.mono S1.bF;have aG:=aa.mono aG al.mono S1.bF;have gm:=aw.mono gm (fun _ _ hh=>ah.mono _ _ _ _ S1.bF hh);have fW:=aw.mono fW (fun _ _ hh=>al.mono _ _ _ _ S1.bF hh);have bj:=aa.mono bj ah.mono S1.bF;have bz:=aa.mono bz al.mono S1.bF;have S:=S.aow S1;refine S.tp [[vi fX]] (rn (m:=[vi fX]) (l2:=[vi fX]) rfl rfl (zaa rfl) rfl rfl) rfl (by decide) (vn rfl tq) (ag rfl rfl) (fun aCQ h S=>?_);have afy:aw ((rI .i64) g) [[vi fX]] [fX]:=(aw.push aw.nil (show(rI .i64) g [vi fX] fX from rfl));have S:=S.f1;obtain⟨aCR,M⟩:=nE M;refine S.app (S.rd 1 rfl) (by rw [afx.1,afy.1];exact aCR) (by decide) rfl (nF (rY .i64) afy) (nF (rY .i64) afx) (fun aKJ h S=>?_);have afz:aw ((rI .i64) g) (aCP++[[vi fX]]) (zr++[fX]):=aw.append afx afy;refine aQ.2 (S.aP 2 rfl rfl (aG.len ?_));have S:=S.f6.f6.f6.f6.f4.t5;exact⟨N,aCN  H _ M S aG afz V0 gm fW bj bz⟩
theorem aCS {w0 c g h E R r N iG dB x1 cJ cM cN cO cP cQ cX cY fX v1 v2 cj Dl bV iD mm bA fa fH fb fJ av aA az aK bf bg fF fG lH}(M:Gv N iG dB x1 cJ cM cN cO cP cQ cX cY fX v1 v2 cj fG=some r)(S:Sep c g h [.sl 3 1 iD mm,.bx bA [.string cM,.string cN,vi cO,vi cP,vi cQ,fa,fb],.sl 67 4 fa fH,.sl 79 3 fb fJ,.bx av (ZZA v1 aA az),.bx aK (ZZA v2 bf bg)])(GB:aa ah.rep 4 g Dl dB)(cn:aa rB 1 g bV x1)(ni:aw ((rI .i64) g) mm cJ)(gm:aw (ah.rep g) fH cX)(fW:aw (al.rep g) fJ cY)(aH:aa ah.rep 4 g aA v1.ab)(aG:aa al.rep 3 g az v1.aI)(bj:aa ah.rep 4 g bf v2.ab)(bz:aa al.rep 3 g bg v2.aI)(nV:Sub lH g)(nW:∀{ar:Int}{gN gO:ByteArray}{gP gQ gR:Int}{gS:List ah}{jl:Z}{jm:List (ZZE)}{gT:List al}{jo:Z}{jq:List (ZZE)}{g2 h2:AH},fG ar gN gO gP gQ gR gS gT=some r→Sub lH g2→Sep c g2 h2 [.sl 3 1 iD mm,.bx bA [.string gN,.string gO,vi gP,vi gQ,vi gR,jl,jo],.sl 67 4 jl jm,.sl 79 3 jo jq,.bx av (ZZA v1 aA az),.bx aK (ZZA v2 bf bg)]→aw (ah.rep g2) jm gS→aw (al.rep g2) jq gT→fF (vi ar) h2)(H:nh c R r):R5 w0 E R (vi iG) Dl bV iD (ak bA 0) (vi fX) (ak av 0) (ak aK 0) fF (vi cj) h:=by
 unfold R5;unfold Gv at M;refine fj.2 (bR (fun hc=>?_) (fun hc=>?_))
 · have M:=aV hc M;exact aCs M S GB cn ni gm fW aH aG bj bz nV nW H
 · have M:=aX hc M;have S:=S.f5.f4.f4.f4.f5.f5;exact aCO M S ni aH aG gm fW bj bz H
theorem aCT {w0 c E R r N iG dB x1 cJ fX v1 v2 Dl bV iD mm bA av aA az aK bf bg}   (H:nh c R r):∀(n:Nat){cM cN:ByteArray}{cO cP cQ:Int}{cX:List ah}{cY:List al}{cj:Int}{fa:Z}{fH:List (ZZE)}{fb:Z}{fJ:List (ZZE)}{g h:AH},Js N iG dB x1 cJ fX v1 v2 n cM cN cO cP cQ cX cY cj=some r→Sep c g h [.sl 3 1 iD mm,.bx bA [.string cM,.string cN,vi cO,vi cP,vi cQ,fa,fb],.sl 67 4 fa fH,.sl 79 3 fb fJ,.bx av (ZZA v1 aA az),.bx aK (ZZA v2 bf bg)]→aa ah.rep 4 g Dl dB→aa rB 1 g bV x1→aw ((rI .i64) g) mm cJ→aw (ah.rep g) fH cX→aw (al.rep g) fJ cY→aa ah.rep 4 g aA v1.ab→aa al.rep 3 g az v1.aI→aa ah.rep 4 g bf v2.ab→aa al.rep 3 g bg v2.aI→gg (α:=Z) (fun k a=>R5 w0 E R (vi iG) Dl bV iD (ak bA 0) (vi fX) (ak av 0) (ak aK 0) k a) n (vi cj) h:=by
 intro n
 induction n with
 | zero=>
  intro cM cN cO cP cQ cX cY cj fa fH fb fJ g h M S GB cn ni gm fW aH aG bj bz ;unfold Js at M;cases M
 | succ n ih=>
  intro cM cN cO cP cQ cX cY cj fa fH fb fJ g h M S GB cn ni gm fW aH aG bj bz ;exact aCS M S GB cn ni gm fW aH aG bj bz  (Sub.refl g) (fun M2 sub S2 Oy Oz=>ih M2 S2 (aa.mono GB ah.mono sub) (aa.mono cn lS sub) (aw.mono ni (fun _ _ hh=>(eD .i64) _ _ _ _ sub hh)) Oy Oz (aa.mono aH ah.mono sub) (aa.mono aG al.mono sub) (aa.mono bj ah.mono sub) (aa.mono bz al.mono sub)) H
theorem aCU {w0 c g h E R r N v1 x1 cM cN cO cP cQ cX cY v2 cJ fX av aA az bV bA fa fH fb fJ aK bf bg iD mm}  (M:VU N v1 x1 cM cN cO cP cQ cX cY v2 cJ fX=some r)(S:Sep c g h [.bx av (ZZA v1 aA az),.bx bA [.string cM,.string cN,vi cO,vi cP,vi cQ,fa,fb],.sl 67 4 fa fH,.sl 79 3 fb fJ,.bx aK (ZZA v2 bf bg),.sl 3 1 iD mm])(aH:aa ah.rep 4 g aA v1.ab)(aG:aa al.rep 3 g az v1.aI)(cn:aa rB 1 g bV x1)(gm:aw (ah.rep g) fH cX)(fW:aw (al.rep g) fJ cY)(bj:aa ah.rep 4 g bf v2.ab)(bz:aa al.rep 3 g bg v2.aI)(ni:aw ((rI .i64) g) mm cJ)  (H:nh c R r):ZP w0 E R (ak av 0) bV (ak bA 0) (ak aK 0) iD (vi fX) h:=by
 unfold ZP;unfold VU at M;refine aQ.2 (S.aP 0 rfl rfl (aH.len ?_));have S:=S.f4.f1.f4.f4.f4.f5;exact⟨N,aCT  H _ M S aH cn ni gm fW aH aG bj bz⟩
theorem aCV {w0 c g h E R r N kO x1 v1 cM cN cO cP cQ cX cY v2 lN iL dv bV av aA az bA fa fH fb fJ aK bf bg zu xC rV sF Di}(M:Gw N kO x1 v1 cM cN cO cP cQ cX cY v2 lN iL dv sF=some r)(S:Sep c g h [.bx av (ZZA v1 aA az),.bx bA [.string cM,.string cN,vi cO,vi cP,vi cQ,fa,fb],.sl 67 4 fa fH,.sl 79 3 fb fJ,.bx aK (ZZA v2 bf bg),.sl 3 1 zu xC])(cn:aa rB 1 g bV x1)(aH:aa ah.rep 4 g aA v1.ab)(aG:aa al.rep 3 g az v1.aI)(gm:aw (ah.rep g) fH cX)(fW:aw (al.rep g) fJ cY)(bj:aa ah.rep 4 g bf v2.ab)(bz:aa al.rep 3 g bg v2.aI)(Bn:aw ((rI .i64) g) xC lN)(Jt:Sub Di g)(Ju:∀{ar:ZZD}{ft:Z}{fu:List (ZZE)}{cd zt:Int}{gN gO:ByteArray}{gP gQ gR:Int}{gS:List ah}{jl:Z}{jm:List (ZZE)}{gT:List al}{jo:Z}{jq:List (ZZE)}{g2 h2:AH},sF ar cd zt gN gO gP gQ gR gS gT=some r→Sub Di g2→Sep c g2 h2 [.bx av (ZZA v1 aA az),.bx bA [.string gN,.string gO,vi gP,vi gQ,vi gR,jl,jo],.sl 67 4 jl jm,.sl 79 3 jo jq,.bx aK (ZZA v2 bf bg),.sl 3 1 ft fu]→aw ((rI .i64) g2) fu ar→aw (ah.rep g2) jm gS→aw (al.rep g2) jq gT→rV ft (vi cd) (vi zt) h2)(H:nh c R r):R7 w0 E R (vi kO) bV (ak av 0) (ak bA 0) (ak aK 0) rV zu (vi iL) (vi dv) h:=by
 unfold R7;unfold Gw at M;refine fj.2 (bR (fun hc=>?_) (fun hc=>?_))
 · have M:=aV hc M;have S:=S.f4.f4.f4.f4.f4.f5;exact aCj M S cn Bn aH aG gm fW bj bz Jt Ju H
 · have M:=aX hc M;exact aCU M S aH aG cn gm fW bj bz Bn H
theorem aCW {w0 c E R r N kO x1 v1 v2 bV av aA az bA aK bf bg}   (H:nh c R r):∀(n:Nat){cM cN:ByteArray}{cO cP cQ:Int}{cX:List ah}{cY:List al}{lN:ZZD}{iL dv:Int}{fa:Z}{fH:List (ZZE)}{fb:Z}{fJ:List (ZZE)}{zu:Z}{xC:List (ZZE)}{g h:AH},Oh N kO x1 v1 v2 n cM cN cO cP cQ cX cY lN iL dv=some r→Sep c g h [.bx av (ZZA v1 aA az),.bx bA [.string cM,.string cN,vi cO,vi cP,vi cQ,fa,fb],.sl 67 4 fa fH,.sl 79 3 fb fJ,.bx aK (ZZA v2 bf bg),.sl 3 1 zu xC]→aa rB 1 g bV x1→aa ah.rep 4 g aA v1.ab→aa al.rep 3 g az v1.aI→aw (ah.rep g) fH cX→aw (al.rep g) fJ cY→aa ah.rep 4 g bf v2.ab→aa al.rep 3 g bg v2.aI→aw ((rI .i64) g) xC lN→gg (α:=Z×Z×Z) (fun k a=>R7 w0 E R (vi kO) bV (ak av 0) (ak bA 0) (ak aK 0) (fun b0 b1 b2=>k (b0,b1,b2)) a.1 a.2.1 a.2.2) n (zu,vi iL,(vi dv)) h:=by
 intro n
 induction n with
 | zero=>
  intro cM cN cO cP cQ cX cY lN iL dv fa fH fb fJ zu xC g h M S cn aH aG gm fW bj bz Bn ;unfold Oh at M;cases M
 | succ n ih=>
  intro cM cN cO cP cQ cX cY lN iL dv fa fH fb fJ zu xC g h M S cn aH aG gm fW bj bz Bn ;exact aCV M S cn aH aG gm fW bj bz Bn  (Sub.refl g) (fun M2 sub S2 Bk Oy Oz=>ih M2 S2 (aa.mono cn lS sub) (aa.mono aH ah.mono sub) (aa.mono aG al.mono sub) Oy Oz (aa.mono bj ah.mono sub) (aa.mono bz al.mono sub) Bk) H
theorem aCX {w0 c g h E R r N v1 x1 v2 av aA az bV aK bf bg}  (M:Oi N v1 x1 v2=some r)(S:Sep c g h [.bx av (ZZA v1 aA az),.bx aK (ZZA v2 bf bg)])(aH:aa ah.rep 4 g aA v1.ab)(aG:aa al.rep 3 g az v1.aI)(cn:aa rB 1 g bV x1)(bj:aa ah.rep 4 g bf v2.ab)(bz:aa al.rep 3 g bg v2.aI)  (H:nh c R r):ZR w0 E R (ak av 0) bV (ak aK 0) h:=by
 unfold ZR;unfold Oi at M;refine S.eA (ZZA v1 aA az) 0 rfl rfl rfl (by decide) (S.alloc (l:=[(.string (⟨⟨[]⟩⟩:ByteArray)),(.string (⟨⟨[]⟩⟩:ByteArray)),vi 0,vi 0,vi 0,bJ,bJ]) (ag rfl (ag rfl (ag rfl (ag rfl (ag rfl (ag rfl (ag rfl rfl))))))) (fun ao4 h S=>?_));refine S.cV (ZZA v1 aA az) (ZZA v1 aA az) rfl rfl (ag rfl (ag rfl (ag rfl (ag rfl (ag rfl (ag aH.one (ag aG.one rfl))))))) (zaa rfl) rfl (fun h S=>?_);refine aQ.2 (S.cV [bJ] (ZZA v1 bJ az) (mE rfl) rfl (ag rfl rfl) (zaa rfl) rfl (fun h S=>?_));refine aQ.2 (S.cV [bJ] (ZZA v1 bJ bJ) (mE rfl) rfl (ag rfl rfl) (zaa rfl) rfl (fun h S=>?_));refine cn.len ?_;have S:=S.B1 67 4;have S:=S.B1 79 3;have S:=S.B1 3 1;have S:=S.f5.f2.f3.f4.f5;exact⟨N,aCW  H _ M S cn aH aG (aw.nil (R:=ah.rep g)) (aw.nil (R:=al.rep g)) bj bz (aw.nil (R:=(rI .i64) g))⟩
theorem aCY {w0 c g h E R r N x1 v2 v1 bV aK bf bg av aA az}  (M:VV N x1 v2 v1=some r)(S:Sep c g h [.bx aK (ZZA v2 bf bg),.bx av (ZZA v1 aA az)])(cn:aa rB 1 g bV x1)(bj:aa ah.rep 4 g bf v2.ab)(bz:aa al.rep 3 g bg v2.aI)(aH:aa ah.rep 4 g aA v1.ab)(aG:aa al.rep 3 g az v1.aI)  (H:nh c R r):ZS w0 E R bV (ak aK 0) (ak av 0) h:=by
 unfold ZS;unfold VV at M;refine cn.len (lB.2 ?_);obtain⟨jw,qB,M⟩:=bind_some M;refine aa.idx cn qB (fun b_7 o_8 vs aCZ NW rp=>?_);cases rp;refine S.dK (NW 0 _ rfl) (dZ.2 (bR (fun hc=>?_) (fun hc=>?_)))
 · have M:=aV hc M;refine(CJ (l:=[(.string (⟨⟨[]⟩⟩:ByteArray)),(.string (⟨⟨[]⟩⟩:ByteArray)),vi 0,vi 0,vi 0,bJ,bJ]) rfl).2 ?_;refine S.cV [(.string (⟨⟨[]⟩⟩:ByteArray)),(.string (⟨⟨[]⟩⟩:ByteArray)),vi 0,vi 0,vi 0,bJ,bJ] [(.string (⟨⟨[]⟩⟩:ByteArray)),(.string (⟨⟨[]⟩⟩:ByteArray)),vi 0,vi 0,vi 0,bJ,bJ] rfl rfl (ag rfl (ag rfl (ag rfl (ag rfl (ag rfl (ag rfl (ag rfl rfl))))))) (zaa rfl) rfl (fun h S=>?_);refine S.eA [(.string (⟨⟨[]⟩⟩:ByteArray)),(.string (⟨⟨[]⟩⟩:ByteArray)),vi 0,vi 0,vi 0,bJ,bJ] 0 rfl rfl rfl (by decide) ?_;cases M;exact H _ _ bJ bJ bJ S.bO aa.nil aa.nil aa.nil
 · have M:=aX hc M;have S:=S.f1;exact aCX M S aH aG cn bj bz H
theorem apG {w0 c g h E R r N v2 x1 v1 qS aK bf bg bV av aA az}  (M:Oj N v2 x1 v1 qS=some r)(S:Sep c g h [.bx aK (ZZA v2 bf bg),.bx av (ZZA v1 aA az)])(bj:aa ah.rep 4 g bf v2.ab)(bz:aa al.rep 3 g bg v2.aI)(cn:aa rB 1 g bV x1)(aH:aa ah.rep 4 g aA v1.ab)(aG:aa al.rep 3 g az v1.aI)  (H:nh c R r):ZT w0 E R (ak aK 0) bV (ak av 0) (.bool qS) h:=by
 unfold ZT;unfold Oj at M;refine bR (fun hc=>?_) (fun hc=>?_)
 · have M:=aV hc M;refine(CJ (l:=[(.string (⟨⟨[]⟩⟩:ByteArray)),(.string (⟨⟨[]⟩⟩:ByteArray)),vi 0,vi 0,vi 0,bJ,bJ]) rfl).2 ?_;refine S.cV [(.string (⟨⟨[]⟩⟩:ByteArray)),(.string (⟨⟨[]⟩⟩:ByteArray)),vi 0,vi 0,vi 0,bJ,bJ] [(.string (⟨⟨[]⟩⟩:ByteArray)),(.string (⟨⟨[]⟩⟩:ByteArray)),vi 0,vi 0,vi 0,bJ,bJ] rfl rfl (ag rfl (ag rfl (ag rfl (ag rfl (ag rfl (ag rfl (ag rfl rfl))))))) (zaa rfl) rfl (fun h S=>?_);refine S.eA [(.string (⟨⟨[]⟩⟩:ByteArray)),(.string (⟨⟨[]⟩⟩:ByteArray)),vi 0,vi 0,vi 0,bJ,bJ] 0 rfl rfl rfl (by decide) ?_;cases M;exact H _ _ bJ bJ bJ S.bO aa.nil aa.nil aa.nil
 · have M:=aX hc M;exact aCY M S cn bj bz aH aG H
theorem aol {w0 g h Q r N x0 x1 cw cx bV}(M:IY N x0 x1=some r)(sg:Sub g h)(ok:h.Ok)(cg:aa ah.rep 4 g cw x0.ab)(cz:aa al.rep 3 g cx x0.aI)(cn:aa rB 1 g bV x1)(H:nh ⟨g,h,[]⟩ (fun v=>Q (.ret v)) r):WF PP w0 R8 [(.agg ⟨(ZZA x0 cw cx)⟩),bV] h Q:=by
 refine atV _ _ ?_;have S:=Sep.start sg ok;unfold aiF;unfold IY at M;refine S.box (ZZA x0 cw cx) rfl (ag rfl (ag rfl (ag rfl (ag rfl (ag rfl (ag cg.one (ag cz.one rfl))))))) (fun jN h S=>?_);refine S.alloc (l:=[(.string (⟨⟨[]⟩⟩:ByteArray)),(.string (⟨⟨[]⟩⟩:ByteArray)),vi 0,vi 0,vi 0,bJ,bJ]) (ag rfl (ag rfl (ag rfl (ag rfl (ag rfl (ag rfl (ag rfl rfl))))))) (fun sE h S=>?_);refine S.eA (ZZA x0 cw cx) 1 rfl rfl rfl (by decide) ?_;obtain⟨ru,Gn,M⟩:=bind_some M;refine Vs Gn S.sub S.ok cg cz (fun _ h  S1  =>?_);have S:=S.dz S1;refine dZ.2 ?_;cases hc:(!ru)
 · have M:=aX hc M;refine au rfl (au rfl (cn.len (au rfl (aQ.2 (au rfl (S.aP 1 rfl rfl (au rfl (cg.len (au rfl (gb.2 (aW.2 ?_)))))))))));exact apG M S aa.nil aa.nil cn cg cz H
 · have M:=aV hc M;repeat refine ax (by decide) ?_;refine aW.2 ?_;exact apG M S aa.nil aa.nil cn cg cz H
def Bv (w0:World) (g:AH) (fv:Z) (f:ah→Option Bool):Prop:=iA fv=true∧∀(a0:ah) (r:Bool) (E K:ZZF) (g2 h2:AH),Sub g g2→Sub g2 h2→h2.Ok→f a0=some r→(∀(g' h':AH),Sep ⟨g2,h2,[]⟩ g' h' []→K (.bool r) h')→dy PP w0 [fv,(.agg ⟨(ZZC a0)⟩)] E K h2
theorem Bv.mono {w0 g g' fv f}(H:Bv w0 g fv f)(S:Sub g g'):Bv w0 g' fv f:=⟨H.1,fun a0 r E K g2 h2 s1=>H.2 a0 r E K g2 h2 (Sub.trans S s1)⟩
def zG (w0:World) (g:AH) (fv:Z) (f:aZ→Option Bool):Prop:=iA fv=true∧∀(a0:aZ) (xK:Z) (Pa:Z) (r:Bool) (E K:ZZF) (g2 h2:AH),Sub g g2→Sub g2 h2→h2.Ok→aa (rI .i64) 1 g2 xK a0.kV→aa (rI .i64) 1 g2 Pa a0.gh→f a0=some r→(∀(g' h':AH),Sep ⟨g2,h2,[]⟩ g' h' []→K (.bool r) h')→dy PP w0 [fv,(.agg ⟨[.string a0.ay,xK,Pa,vi a0.kW]⟩)] E K h2
theorem zG.mono {w0 g g' fv f}(H:zG w0 g fv f)(S:Sub g g'):zG w0 g' fv f:=⟨H.1,fun a0 xK Pa r E K g2 h2 s1=>H.2 a0 xK Pa r E K g2 h2 (Sub.trans S s1)⟩
def Wq   :Option (Int×Bool):=
 some (0,false)
def DO (x0:ah):Option (Int×Bool):=
 bif (decide (x0.aJ=20))then(
 some (x0.fC,true))else(
 bif (decide (x0.aJ=22))then(
 some (x0.fB,true))else(
 Wq))
abbrev aqp (c:Cx) (R:ZZF) (r:Int×Bool):Prop:=∀(g' h':AH),Sep c g' h' []→R (.tuple ⟨[vi r.1,.bool r.2]⟩) h'
theorem aEU {w0 c g h E R r}   (M:Wq  =some r)(S:Sep c g h [])   (H:aqp c R r):Yl w0 E R  h:=by
 unfold Yl;unfold Wq at M;cases M;exact H _ _  S.bO
theorem aqq {w0 g h Q r x0}(M:DO x0=some r)(sg:Sub g h)(ok:h.Ok)  (H:aqp ⟨g,h,[]⟩ (fun v=>Q (.ret v)) r):WF PP w0 Q5 [(.agg ⟨(ZZC x0)⟩)] h Q:=by
 refine atg _ ?_;have S:=Sep.start sg ok;unfold ah4;unfold DO at M;refine S.box (ZZC x0) rfl (ag rfl (ag rfl (ag rfl (ag rfl rfl)))) (fun jN h S=>?_);refine aQ.2 (S.aP 0 rfl rfl (gr.2 (bR (fun hc=>?_) (fun hc=>?_))))
 · have M:=aV hc M;refine aQ.2 (S.aP 0 rfl rfl ?_);cases M;exact H _ _  S.bO
 · have M:=aX hc M;refine gr.2 (bR (fun hc=>?_) (fun hc=>?_))
   · have M:=aV hc M;refine aQ.2 (S.aP 0 rfl rfl ?_);cases M;exact H _ _  S.bO
   · have M:=aX hc M;have S:=S.t0;exact aEU M S  H
def Wr   :Option Int:=
 some 0
def Pb (ct:Bool)  :Option Int:=
 bif ct then(
 some 1)else(
 Wr)
def Pc (v1:ae) (v20:Bool)  :Option Int:=
 bif v20 then(
 Pb true)else(
 Pb (decide ((v1.ab.length:Int)=0)))
def Pd (v1:ae) (y4:Int) (b9:Bool)  :Option Int:=
 bif b9 then(
 Pc v1 true)else(
 Pc v1 (decide (y4<v1.fArgs)))
def Pe (v1:ae) (y4:Int) (v11:Bool)  :Option Int:=
 bif v11 then(
 Pd v1 y4 true)else(
 Pd v1 y4 (decide (v1.aD<0)))
def Pf (v1:ae) (y4:Int)  :Option Int:=
 bif (decide (v1.fArgs<0))then(
 Pe v1 y4 true)else(
 Pe v1 y4 (decide (v1.aE<1)))
def Ws (v1:ae)  :Option Int:=
 bif (decide (v1.aD=0))then(
 Pf v1 v1.aE)else(
 Pf v1 v1.aD)
def Pg (v1:ae) (v49:Bool)  :Option Int:=
 bif v49 then(
 some 3)else(
 Ws v1)
def Ph (v1:ae) (iF:Bool)  :Option Int:=
 bif iF then(
 Pg v1 true)else(
 Pg v1 (decide (40<(v1.aI.length:Int))))
def Pj (v1:ae) (bh:Bool)  :Option Int:=
 bif bh then(
 Ph v1 true)else(
 Ph v1 (decide (600<(v1.ab.length:Int))))
def Pk (v1:ae) (dM:Bool)  :Option Int:=
 bif dM then(
 Pj v1 true)else(
 Pj v1 (decide (200<v1.aD)))
def Pl (x0:ae):Option Int:=
 bif (decide (16<x0.fArgs))then(
 Pk x0 true)else(
 Pk x0 (decide (200<x0.aE)))
abbrev wy (c:Cx) (R:ZZF) (r:Int):Prop:=∀(g' h':AH),Sep c g' h' []→R (vi r) h'
theorem aEV {w0 c g h E R r}   (M:Wr  =some r)(S:Sep c g h [])   (H:wy c R r):XV w0 E R  h:=by
 unfold XV;unfold Wr at M;cases M;exact H _ _  S.bO
theorem aqr {w0 c g h E R r ct}  (M:Pb ct=some r)(S:Sep c g h [])   (H:wy c R r):XW w0 E R (.bool ct) h:=by
 unfold XW;unfold Pb at M;refine bR (fun hc=>?_) (fun hc=>?_)
 · have M:=aV hc M;cases M;exact H _ _  S.bO
 · have M:=aX hc M;exact aEV M S  H
theorem aqs {w0 c g h E R r v1 v20 av aA az}  (M:Pc v1 v20=some r)(S:Sep c g h [.bx av (ZZA v1 aA az)])(aH:aa ah.rep 4 g aA v1.ab)(aG:aa al.rep 3 g az v1.aI)  (H:wy c R r):XX w0 E R (ak av 0) (.bool v20) h:=by
 unfold XX;unfold Pc at M;cases hc:v20
 · have M:=aX hc M;refine au rfl (aQ.2 (au rfl (S.aP 0 rfl rfl (au rfl (aH.len (au rfl (gr.2 (aW.2 ?_))))))));have S:=S.t0;exact aqr M S  H
 · have M:=aV hc M;repeat refine ax (by decide) ?_;refine aW.2 ?_;have S:=S.t0;exact aqr M S  H
theorem aqt {w0 c g h E R r v1 y4 b9 av aA az}  (M:Pd v1 y4 b9=some r)(S:Sep c g h [.bx av (ZZA v1 aA az)])(aH:aa ah.rep 4 g aA v1.ab)(aG:aa al.rep 3 g az v1.aI)  (H:wy c R r):XY w0 E R (ak av 0) (vi y4) (.bool b9) h:=by
 unfold XY;unfold Pd at M;cases hc:b9
 · have M:=aX hc M;refine au rfl (aQ.2 (au rfl (S.aP 0 rfl rfl (au rfl (au rfl (kT.2 (aW.2 ?_)))))));exact aqs M S aH aG H
 · have M:=aV hc M;repeat refine ax (by decide) ?_;refine aW.2 ?_;exact aqs M S aH aG H
theorem aqu {w0 c g h E R r v1 y4 v11 av aA az}  (M:Pe v1 y4 v11=some r)(S:Sep c g h [.bx av (ZZA v1 aA az)])(aH:aa ah.rep 4 g aA v1.ab)(aG:aa al.rep 3 g az v1.aI)  (H:wy c R r):XZ w0 E R (ak av 0) (vi y4) (.bool v11) h:=by
 unfold XZ;unfold Pe at M;cases hc:v11
 · have M:=aX hc M;refine au rfl (aQ.2 (au rfl (S.aP 0 rfl rfl (au rfl (fj.2 (aW.2 ?_))))));exact aqt M S aH aG H
 · have M:=aV hc M;repeat refine ax (by decide) ?_;refine aW.2 ?_;exact aqt M S aH aG H
theorem aqv {w0 c g h E R r v1 y4 av aA az}  (M:Pf v1 y4=some r)(S:Sep c g h [.bx av (ZZA v1 aA az)])(aH:aa ah.rep 4 g aA v1.ab)(aG:aa al.rep 3 g az v1.aI)  (H:wy c R r):QZ w0 E R (ak av 0) (vi y4) h:=by
 unfold QZ;unfold Pf at M;refine aQ.2 (S.aP 0 rfl rfl (fj.2 ?_));cases hc:(decide (v1.fArgs<0))
 · have M:=aX hc M;refine au rfl (aQ.2 (au rfl (S.aP 0 rfl rfl (au rfl (fj.2 (aW.2 ?_))))));exact aqu M S aH aG H
 · have M:=aV hc M;repeat refine ax (by decide) ?_;refine aW.2 ?_;exact aqu M S aH aG H
theorem aEW {w0 c g h E R r v1 av aA az}  (M:Ws v1=some r)(S:Sep c g h [.bx av (ZZA v1 aA az)])(aH:aa ah.rep 4 g aA v1.ab)(aG:aa al.rep 3 g az v1.aI)  (H:wy c R r):X0 w0 E R (ak av 0) h:=by
 unfold X0;unfold Ws at M;refine aQ.2 (S.aP 0 rfl rfl (gr.2 (bR (fun hc=>?_) (fun hc=>?_))))
 · have M:=aV hc M;refine aQ.2 (S.aP 0 rfl rfl ?_);exact aqv M S aH aG H
 · have M:=aX hc M;exact aqv M S aH aG H
theorem aqw {w0 c g h E R r v1 v49 av aA az}  (M:Pg v1 v49=some r)(S:Sep c g h [.bx av (ZZA v1 aA az)])(aH:aa ah.rep 4 g aA v1.ab)(aG:aa al.rep 3 g az v1.aI)  (H:wy c R r):X1 w0 E R (ak av 0) (.bool v49) h:=by
 unfold X1;unfold Pg at M;refine bR (fun hc=>?_) (fun hc=>?_)
 · have M:=aV hc M;cases M;exact H _ _  S.bO
 · have M:=aX hc M;exact aEW M S aH aG H
theorem aqx {w0 c g h E R r v1 iF av aA az}  (M:Ph v1 iF=some r)(S:Sep c g h [.bx av (ZZA v1 aA az)])(aH:aa ah.rep 4 g aA v1.ab)(aG:aa al.rep 3 g az v1.aI)  (H:wy c R r):X2 w0 E R (ak av 0) (.bool iF) h:=by
 unfold X2;unfold Ph at M;cases hc:iF
 · have M:=aX hc M;refine au rfl (aQ.2 (au rfl (S.aP 0 rfl rfl (au rfl (aG.len (au rfl (kT.2 (aW.2 ?_))))))));exact aqw M S aH aG H
 · have M:=aV hc M;repeat refine ax (by decide) ?_;refine aW.2 ?_;exact aqw M S aH aG H
theorem aqy {w0 c g h E R r v1 bh av aA az}  (M:Pj v1 bh=some r)(S:Sep c g h [.bx av (ZZA v1 aA az)])(aH:aa ah.rep 4 g aA v1.ab)(aG:aa al.rep 3 g az v1.aI)  (H:wy c R r):X3 w0 E R (ak av 0) (.bool bh) h:=by
 unfold X3;unfold Pj at M;cases hc:bh
 · have M:=aX hc M;refine au rfl (aQ.2 (au rfl (S.aP 0 rfl rfl (au rfl (aH.len (au rfl (kT.2 (aW.2 ?_))))))));exact aqx M S aH aG H
 · have M:=aV hc M;repeat refine ax (by decide) ?_;refine aW.2 ?_;exact aqx M S aH aG H
theorem aqz {w0 c g h E R r v1 dM av aA az}  (M:Pk v1 dM=some r)(S:Sep c g h [.bx av (ZZA v1 aA az)])(aH:aa ah.rep 4 g aA v1.ab)(aG:aa al.rep 3 g az v1.aI)  (H:wy c R r):X4 w0 E R (ak av 0) (.bool dM) h:=by
 unfold X4;unfold Pk at M;cases hc:dM
 · have M:=aX hc M;refine au rfl (aQ.2 (au rfl (S.aP 0 rfl rfl (au rfl (kT.2 (aW.2 ?_))))));exact aqy M S aH aG H
 · have M:=aV hc M;repeat refine ax (by decide) ?_;refine aW.2 ?_;exact aqy M S aH aG H
theorem aEX {w0 g h Q r x0 cw cx}(M:Pl x0=some r)(sg:Sub g h)(ok:h.Ok)(cg:aa ah.rep 4 g cw x0.ab)(cz:aa al.rep 3 g cx x0.aI)(H:wy ⟨g,h,[]⟩ (fun v=>Q (.ret v)) r):WF PP w0 X5 [(.agg ⟨(ZZA x0 cw cx)⟩)] h Q:=by
 refine as8 _ ?_;have S:=Sep.start sg ok;unfold ahV;unfold Pl at M;refine S.box (ZZA x0 cw cx) rfl (ag rfl (ag rfl (ag rfl (ag rfl (ag rfl (ag cg.one (ag cz.one rfl))))))) (fun jN h S=>?_);refine aQ.2 (S.aP 0 rfl rfl (kT.2 ?_));cases hc:(decide (16<x0.fArgs))
 · have M:=aX hc M;refine au rfl (aQ.2 (au rfl (S.aP 0 rfl rfl (au rfl (kT.2 (aW.2 ?_))))));exact aqz M S cg cz H
 · have M:=aV hc M;repeat refine ax (by decide) ?_;refine aW.2 ?_;exact aqz M S cg cz H
def Pm (v3:bD) (v12:Bool)  :Option Bool:=
 bif v12 then(
 some v3.nZ)else(
 some false)
def Wt (x3:Int) (v2:aZ) (v3:bD)  :Option Bool:=
 bif (decide ((bN .i64 ((-2)-x3))<(v2.kV.length:Int)))then(
 Pm v3 (decide (v3.fArgs=0)))else(
 Pm v3 false)
def Pn (x0:aO) (x1:aZ) (x2:bD) (x3:Int):Option Bool:=
 bif (decide (x3=(-1)))then(
 some true)else(
 bif (decide (0≤x3))then(
 bif (decide (x3<(x0.bp.length:Int)))then(
(ix x0.bp x3).bind fun fq=>
 some (decide (fq.fArgs=x2.fArgs)))else(
 some false))else(
 Wt x3 x1 x2))
abbrev agk (c:Cx) (R:ZZF) (r:Bool):Prop:=∀(g' h':AH),Sep c g' h' []→R (.bool r) h'
theorem aqA {w0 c g h E R r v3 v12 bI}  (M:Pm v3 v12=some r)(S:Sep c g h [.bx bI [.string v3.aC,.string v3.ay,vi v3.fArgs,.bool v3.nZ]])   (H:agk c R r):XK w0 E R (ak bI 0) (.bool v12) h:=by
 unfold XK;unfold Pm at M;cases hc:v12
 · have M:=aX hc M;repeat refine ax (by decide) ?_;refine aW.2 ?_;cases M;exact H _ _  S.bO
 · have M:=aV hc M;refine au rfl (aQ.2 (au rfl (S.aP 0 rfl rfl (aW.2 ?_))));cases M;exact H _ _  S.bO
theorem aEY {w0 c g h E R r x3 v2 v3 aK bf bg bI}  (M:Wt x3 v2 v3=some r)(S:Sep c g h [.bx aK [.string v2.ay,bf,bg,vi v2.kW],.bx bI [.string v3.aC,.string v3.ay,vi v3.fArgs,.bool v3.nZ]])(bj:aa (rI .i64) 1 g bf v2.kV)(bz:aa (rI .i64) 1 g bg v2.gh)  (H:agk c R r):XL w0 E R (vi x3) (ak aK 0) (ak bI 0) h:=by
 unfold XL;unfold Wt at M;refine lB.2 (aQ.2 (S.aP 0 rfl rfl (bj.len (fj.2 ?_))));cases hc:(decide ((bN .i64 ((-2)-x3))<(v2.kV.length:Int)))
 · have M:=aX hc M;repeat refine ax (by decide) ?_;refine aW.2 ?_;have S:=S.f1.t1;exact aqA M S  H
 · have M:=aV hc M;refine au rfl (aQ.2 (au rfl (S.aP 1 rfl rfl (au rfl (gr.2 (aW.2 ?_))))));have S:=S.f1.t1;exact aqA M S  H
theorem aEZ {w0 g h Q r x0 x1 x2 x3 cw cx iY kB kC}(M:Pn x0 x1 x2 x3=some r)(sg:Sub g h)(ok:h.Ok)(cg:aa aZ.rep 4 g cw x0.bE)(cz:aa bD.rep 4 g cx x0.bw)(jF:aa ae.rep 7 g iY x0.bp)(lG:aa (rI .i64) 1 g kB x1.kV)(nb:aa (rI .i64) 1 g kC x1.gh)(H:agk ⟨g,h,[]⟩ (fun v=>Q (.ret v)) r):WF PP w0 XM [(.agg ⟨(ZZB x0 cw cx iY)⟩),(.agg ⟨[.string x1.ay,kB,kC,vi x1.kW]⟩),(.agg ⟨[.string x2.aC,.string x2.ay,vi x2.fArgs,.bool x2.nZ]⟩),vi x3] h Q:=by
 refine as5 _ _ _ _ ?_;have S:=Sep.start sg ok;unfold ahT;unfold Pn at M;refine S.box (ZZB x0 cw cx iY) rfl (ag cg.one (ag cz.one (ag jF.one (ag rfl (ag rfl rfl))))) (fun jN h S=>?_);refine S.box [.string x1.ay,kB,kC,vi x1.kW] rfl (ag rfl (ag lG.one (ag nb.one (ag rfl rfl)))) (fun sE h S=>?_);refine S.box [.string x2.aC,.string x2.ay,vi x2.fArgs,.bool x2.nZ] rfl (ag rfl (ag rfl (ag rfl (ag rfl rfl)))) (fun vo h S=>?_);refine gr.2 (bR (fun hc=>?_) (fun hc=>?_))
 · have M:=aV hc M;cases M;exact H _ _  S.bO
 · have M:=aX hc M;refine sk.2 (bR (fun hc=>?_) (fun hc=>?_))
   · have M:=aV hc M;refine aQ.2 (S.aP 2 rfl rfl (jF.len (fj.2 ?_)));cases hc:(decide (x3<(x0.bp.length:Int)))
     · have M:=aX hc M;repeat refine ax (by decide) ?_;refine aW.2 ?_;cases M;exact H _ _  S.bO
     · have M:=aV hc M;refine au rfl (aQ.2 (au rfl (S.aP 2 rfl rfl (au rfl (au rfl ?_)))));obtain⟨fq,Be,M⟩:=bind_some M;refine aa.idx jF Be (fun b_6 o_7 vs aqB Wu rp=>?_);obtain⟨UZ,aLh,rfl,CW,aLi⟩:=rp;refine au rfl (aQ.2 (au rfl (S.dK (Wu 2 _ rfl) (au rfl (aQ.2 (au rfl (S.aP 0 rfl rfl (au rfl (gr.2 (aW.2 ?_))))))))));cases M;exact H _ _  S.bO
   · have M:=aX hc M;have S:=S.f1.t2;exact aEY M S lG nb H
def GR (x2:Int) (v7:bD) (v21:Bool)  :Option Bool:=
 bif v21 then(
 some true)else(
 bif (decide (x2=9))then(
 some (!v7.nZ))else(
 some false))
def Wv (v1:aO) (x3:Int) (x2:Int)  :Option Bool:=
(ix v1.bw x3).bind fun ia=>
 bif (decide (x2=8))then(
 GR x2 ia true)else(
 bif (decide (x2=7))then(
 bif (decide (ia.fArgs=0))then(
 GR x2 ia ia.nZ)else(
 GR x2 ia false))else(
 GR x2 ia false))
def Po (v1:aO) (x3:Int) (x2:Int)  :Option Bool:=
(kb x3 0 (bN .i64 ((v1.bw.length:Int)-1))).bind fun sB=>
 bif (!sB)then(
 some false)else(
 Wv v1 x3 x2)
def sJ (x0:aO) (x1:ae) (x2:Int) (x3:Int):Option Bool:=
 bif (decide (x2=0))then(
 some (decide (x3=0)))else(
 bif (decide (x2=1))then(
(kb x3 0 (bN .i64 (x1.aE-1))).bind fun ru=>
 some ru)else(
 bif (decide (x2=2))then(
(kb x3 (-1) (bN .i64 (x1.aE-1))).bind fun jw=>
 some jw)else(
 bif (decide (x2=3))then(
(kb x3 0 (bN .i64 ((x1.ab.length:Int)-1))).bind fun eR=>
 some eR)else(
 bif (decide (x2=4))then(
(kb x3 (-1099511627776) 1099511627776).bind fun fD=>
 some fD)else(
 bif (decide (x2=5))then(
(kb x3 0 1).bind fun mn=>
 some mn)else(
 bif (decide (x2=6))then(
(kb x3 0 15).bind fun kD=>
 some kD)else(
 bif (decide (x2=10))then(
(kb x3 0 (bN .i64 ((x0.bE.length:Int)-1))).bind fun rv=>
 some rv)else(
 bif (decide (x2=11))then(
(kb x3 1 199).bind fun ke=>
 some ke)else(
 bif (decide (x2=12))then(
(kb x3 0 (bN .i64 (x1.aD-1))).bind fun oD=>
 some oD)else(
 Po x0 x3 x2))))))))))
abbrev Ww (c:Cx) (R:ZZF) (r:Bool):Prop:=∀(g' h':AH),Sep c g' h' []→R (.bool r) h'
theorem Wx {w0 c g h E R r x2 v7 v21 ON}  (M:GR x2 v7 v21=some r)(S:Sep c g h [.bx ON [.string v7.aC,.string v7.ay,vi v7.fArgs,.bool v7.nZ]])   (H:Ww c R r):X7 w0 E R (vi x2) (ak ON 0) (.bool v21) h:=by
 unfold X7;unfold GR at M;cases hc:v21
 · have M:=aX hc M;refine au rfl ?_;refine au rfl ?_;refine gr.2 ?_;refine au rfl ?_;cases hc:(decide (x2=9))
   · have M:=aX hc M;refine ax (by decide) ?_;refine ax (by decide) ?_;refine ax (by decide) ?_;refine au rfl ?_;refine aW.2 ?_;refine aW.2 ?_;cases M;exact H _ _  S.bO
   · have M:=aV hc M;refine au rfl ?_;refine aQ.2 ?_;refine au rfl ?_;refine S.aP 0 rfl rfl ?_;refine au rfl ?_;refine dZ.2 ?_;refine au rfl ?_;refine aW.2 ?_;refine aW.2 ?_;cases M;exact H _ _  S.bO
 · have M:=aV hc M;refine ax (by decide) ?_;refine ax (by decide) ?_;refine ax (by decide) ?_;refine dQ ?_;refine dQ ?_;refine dQ ?_;refine ax (by decide) ?_;refine aW.2 ?_;cases M;exact H _ _  S.bO
theorem aE0 {w0 c g h E R r v1 x3 x2 av aA az aR}  (M:Wv v1 x3 x2=some r)(S:Sep c g h [.bx av (ZZB v1 aA az aR)])(aH:aa aZ.rep 4 g aA v1.bE)(aG:aa bD.rep 4 g az v1.bw)(aS:aa ae.rep 7 g aR v1.bp)  (H:Ww c R r):X8 w0 E R (ak av 0) (vi x3) (vi x2) h:=by
 unfold X8;unfold Wv at M;refine aQ.2 ?_;refine S.aP 0 rfl rfl ?_;obtain⟨ia,GC,M⟩:=bind_some M;refine aa.idx aG GC (fun apu apv vs apw Ow rp=>?_);cases rp;refine S.iX Ow rfl (by decide) ?_;refine S.alloc (l:=[(.string (⟨⟨[]⟩⟩:ByteArray)),(.string (⟨⟨[]⟩⟩:ByteArray)),vi 0,.bool false]) (ag rfl (ag rfl (ag rfl (ag rfl rfl)))) (fun Jv h S=>?_);refine S.cV [.string ia.aC,.string ia.ay,vi ia.fArgs,.bool ia.nZ] [.string ia.aC,.string ia.ay,vi ia.fArgs,.bool ia.nZ] rfl rfl (ag rfl (ag rfl (ag rfl (ag rfl rfl)))) (zaa rfl) rfl (fun h S=>?_);refine gr.2 ?_;cases hc:(decide (x2=8))
 · have M:=aX hc M;refine au rfl ?_;refine au rfl ?_;refine gr.2 ?_;refine au rfl ?_;cases hc:(decide (x2=7))
   · have M:=aX hc M;refine ax (by decide) ?_;refine ax (by decide) ?_;refine ax (by decide) ?_;refine au rfl ?_;refine aW.2 ?_;refine au rfl ?_;refine ax (by decide) ?_;refine ax (by decide) ?_;refine au rfl ?_;refine aW.2 ?_;refine aW.2 ?_;have S:=S.t1;exact Wx M S  H
   · have M:=aV hc M;refine au rfl ?_;refine aQ.2 ?_;refine au rfl ?_;refine S.aP 0 rfl rfl ?_;refine au rfl ?_;refine gr.2 ?_;refine au rfl ?_;refine aW.2 ?_;refine au rfl ?_;cases hc:(decide (ia.fArgs=0))
     · have M:=aX hc M;refine ax (by decide) ?_;refine ax (by decide) ?_;refine au rfl ?_;refine aW.2 ?_;refine aW.2 ?_;have S:=S.t1;exact Wx M S  H
     · have M:=aV hc M;refine au rfl ?_;refine aQ.2 ?_;refine au rfl ?_;refine S.aP 0 rfl rfl ?_;refine au rfl ?_;refine aW.2 ?_;refine aW.2 ?_;have S:=S.t1;exact Wx M S  H
 · have M:=aV hc M;refine ax (by decide) ?_;refine ax (by decide) ?_;refine ax (by decide) ?_;refine dQ ?_;refine dQ ?_;refine dQ ?_;refine ax (by decide) ?_;refine ax (by decide) ?_;refine dQ ?_;refine dQ ?_;refine ax (by decide) ?_;refine aW.2 ?_;have S:=S.t1;exact Wx M S  H
theorem aE1 {w0 c g h E R r v1 x3 x2 av aA az aR}  (M:Po v1 x3 x2=some r)(S:Sep c g h [.bx av (ZZB v1 aA az aR)])(aH:aa aZ.rep 4 g aA v1.bE)(aG:aa bD.rep 4 g az v1.bw)(aS:aa ae.rep 7 g aR v1.bp)  (H:Ww c R r):X9 w0 E R (ak av 0) (vi x3) (vi x2) h:=by
 unfold X9;unfold Po at M;refine aQ.2 (S.aP 0 rfl rfl (aG.len (lB.2 ?_)));obtain⟨sB,Bd,M⟩:=bind_some M;refine mJ Bd S.sub S.ok (fun _ h  S1  =>?_);have S:=S.dz S1;refine dZ.2 (bR (fun hc=>?_) (fun hc=>?_))
 · have M:=aV hc M;cases M;exact H _ _  S.bO
 · have M:=aX hc M;exact aE0 M S aH aG aS H
theorem aE2 {w0 g h Q r x0 x1 x2 x3 cw cx iY kB kC}(M:sJ x0 x1 x2 x3=some r)(sg:Sub g h)(ok:h.Ok)(cg:aa aZ.rep 4 g cw x0.bE)(cz:aa bD.rep 4 g cx x0.bw)(jF:aa ae.rep 7 g iY x0.bp)(lG:aa ah.rep 4 g kB x1.ab)(nb:aa al.rep 3 g kC x1.aI)(H:Ww ⟨g,h,[]⟩ (fun v=>Q (.ret v)) r):WF PP w0 Ya [(.agg ⟨(ZZB x0 cw cx iY)⟩),(.agg ⟨(ZZA x1 kB kC)⟩),vi x2,vi x3] h Q:=by
 refine atb _ _ _ _ ?_;have S:=Sep.start sg ok;unfold ah0;unfold sJ at M;refine S.box (ZZB x0 cw cx iY) rfl (ag cg.one (ag cz.one (ag jF.one (ag rfl (ag rfl rfl))))) (fun jN h S=>?_);refine S.box (ZZA x1 kB kC) rfl (ag rfl (ag rfl (ag rfl (ag rfl (ag rfl (ag lG.one (ag nb.one rfl))))))) (fun sE h S=>?_);refine gr.2 (bR (fun hc=>?_) (fun hc=>?_))
 · have M:=aV hc M;refine gr.2 ?_;cases M;exact H _ _  S.bO
 · have M:=aX hc M;refine gr.2 (bR (fun hc=>?_) (fun hc=>?_))
   · have M:=aV hc M;refine aQ.2 (S.aP 0 rfl rfl (lB.2 ?_));obtain⟨ru,Gn,M⟩:=bind_some M;refine mJ Gn S.sub S.ok (fun _ h  S1  =>?_);have S:=S.dz S1;cases M;exact H _ _  S.bO
   · have M:=aX hc M;refine gr.2 (bR (fun hc=>?_) (fun hc=>?_))
     · have M:=aV hc M;refine aQ.2 (S.aP 0 rfl rfl (lB.2 ?_));obtain⟨jw,qB,M⟩:=bind_some M;refine mJ qB S.sub S.ok (fun _ h  S1  =>?_);have S:=S.dz S1;cases M;exact H _ _  S.bO
     · have M:=aX hc M;refine gr.2 (bR (fun hc=>?_) (fun hc=>?_))
       · have M:=aV hc M;refine aQ.2 (S.aP 0 rfl rfl (lG.len (lB.2 ?_)));obtain⟨eR,mL,M⟩:=bind_some M;refine mJ mL S.sub S.ok (fun _ h  S1  =>?_);have S:=S.dz S1;cases M;exact H _ _  S.bO
       · have M:=aX hc M;refine gr.2 (bR (fun hc=>?_) (fun hc=>?_))
         · have M:=aV hc M;obtain⟨fD,qC,M⟩:=bind_some M;refine mJ qC S.sub S.ok (fun _ h  S1  =>?_);have S:=S.dz S1;cases M;exact H _ _  S.bO
         · have M:=aX hc M;refine gr.2 (bR (fun hc=>?_) (fun hc=>?_))
           · have M:=aV hc M;obtain⟨mn,wv,M⟩:=bind_some M;refine mJ wv S.sub S.ok (fun _ h  S1  =>?_);have S:=S.dz S1;cases M;exact H _ _  S.bO
           · have M:=aX hc M;refine gr.2 (bR (fun hc=>?_) (fun hc=>?_))
             · have M:=aV hc M;obtain⟨kD,vt,M⟩:=bind_some M;refine mJ vt S.sub S.ok (fun _ h  S1  =>?_);have S:=S.dz S1;cases M;exact H _ _  S.bO
             · have M:=aX hc M;refine gr.2 (bR (fun hc=>?_) (fun hc=>?_))
               · have M:=aV hc M;refine aQ.2 (S.aP 1 rfl rfl (cg.len (lB.2 ?_)));obtain⟨rv,Bm,M⟩:=bind_some M;refine mJ Bm S.sub S.ok (fun _ h  S1  =>?_);have S:=S.dz S1;cases M;exact H _ _  S.bO
               · have M:=aX hc M;refine gr.2 (bR (fun hc=>?_) (fun hc=>?_))
                 · have M:=aV hc M;obtain⟨ke,NV,M⟩:=bind_some M;refine mJ NV S.sub S.ok (fun _ h  S1  =>?_);have S:=S.dz S1;cases M;exact H _ _  S.bO
                 · have M:=aX hc M;refine gr.2 (bR (fun hc=>?_) (fun hc=>?_))
                   · have M:=aV hc M;refine aQ.2 (S.aP 0 rfl rfl (lB.2 ?_));obtain⟨oD,agl,M⟩:=bind_some M;refine mJ agl S.sub S.ok (fun _ h  S1  =>?_);have S:=S.dz S1;cases M;exact H _ _  S.bO
                   · have M:=aX hc M;have S:=S.f1.t1;exact aE1 M S cg cz jF H
def agm (N:Nat) (jB:Int) (Bw:aO) (uj:ae) (oE:pq) (np:ah) (uk:Int→Option Bool):Option Bool:=
 uk (bN .i64 (jB+1))
def agn (N:Nat) (dE:ox) (jB:Int) (v1:aO) (v2:ae) (v9:pq) (np:ah) (uk:Int→Option Bool):Option Bool:=
(ix [dE.e0,dE.e1,dE.e2] jB).bind fun fD=>
(ix [v9.cL.e0,v9.cL.e1,v9.cL.e2] jB).bind fun mn=>
(sJ v1 v2 mn fD).bind fun kD=>
 bif (!kD)then(
 some false)else(
 agm N jB v1 v2 v9 np uk)
def JO (N:Nat) (v1:aO) (v3:ah) (dc:Bool)  :Option Bool:=
 bif dc then(
 some true)else(
(ix v1.bw v3.fC).bind fun rv=>
 some rv.nZ)
def GS (N:Nat) (v3:ah) (v1:aO)  :Option Bool:=
 bif (!decide (v3.aJ=20))then(
 JO N v1 v3 true)else(
 JO N v1 v3 (decide (v3.fA<0)))
def ago (N:Nat) (dE:ox) (v1:aO) (v2:ae) (v9:pq) (v3:ah) (jB:Int) (uk:Int→Option Bool):Option Bool:=
 bif (decide (jB<3))then(
 agn N dE jB v1 v2 v9 v3 uk)else(
 GS N v3 v1)
def Wy (N:Nat) (dE:ox) (v1:aO) (v2:ae) (v9:pq) (v3:ah)  :Nat→Int→Option Bool | 0,_=>none | n+1,jB=>ago N dE v1 v2 v9 v3 jB  (fun ar=>Wy N dE v1 v2 v9 v3 n ar)
def Wz (N:Nat) (v3:ah) (v1:aO) (v2:ae) (v9:pq)  :Option Bool:=
(Da v3).bind fun eR=>
 Wy N eR v1 v2 v9 v3 N 0
def rA (N:Nat) (x0:aO) (x1:ae) (x2:ah):Option Bool:=
(Db x2.aJ).bind fun fq=>
 bif (!fq.2)then(
 some false)else(
 Wz N x2 x0 x1 fq.1)
abbrev DP (c:Cx) (R:ZZF) (r:Bool):Prop:=∀(g' h':AH),Sep c g' h' []→R (.bool r) h'
theorem aE3 {w0 c g h E R r N jB Bw uj oE np aqC agp agq ags aqD agt agu aqE Pp sV uk DQ}(M:agm N jB Bw uj oE np uk=some r)(S:Sep c g h [.bx aqC (ZZB Bw agp agq ags),.bx aqD (ZZA uj agt agu),.bx aqE [.string oE.ml,vi oE.cL.e0,vi oE.cL.e1,vi oE.cL.e2,vi oE.jx,vi oE.dF.e0,vi oE.dF.e1,.bool oE.jV,.bool oE.jP],.bx Pp (ZZC np)])(aLj:aa aZ.rep 4 g agp Bw.bE)(aLk:aa bD.rep 4 g agq Bw.bw)(aLl:aa ae.rep 7 g ags Bw.bp)(aLm:aa ah.rep 4 g agt uj.ab)(aLn:aa al.rep 3 g agu uj.aI)(Pq:Sub DQ g)(Ps:∀{ar:Int}{g2 h2:AH},uk ar=some r→Sub DQ g2→Sep c g2 h2 [.bx aqC (ZZB Bw agp agq ags),.bx aqD (ZZA uj agt agu),.bx aqE [.string oE.ml,vi oE.cL.e0,vi oE.cL.e1,vi oE.cL.e2,vi oE.jx,vi oE.dF.e0,vi oE.dF.e1,.bool oE.jV,.bool oE.jP],.bx Pp (ZZC np)]→sV (vi ar) h2)(H:DP c R r):Yd w0 E R (vi jB) sV h:=by
 unfold Yd;unfold agm at M;refine gE.2 ?_;exact Ps M Pq S
theorem aE4 {w0 c g h E R r N dE jB v1 v2 v9 np av aA az aR aK bf bg gI Pp sV uk DQ}(M:agn N dE jB v1 v2 v9 np uk=some r)(S:Sep c g h [.bx av (ZZB v1 aA az aR),.bx aK (ZZA v2 bf bg),.bx gI [.string v9.ml,vi v9.cL.e0,vi v9.cL.e1,vi v9.cL.e2,vi v9.jx,vi v9.dF.e0,vi v9.dF.e1,.bool v9.jV,.bool v9.jP],.bx Pp (ZZC np)])(aH:aa aZ.rep 4 g aA v1.bE)(aG:aa bD.rep 4 g az v1.bw)(aS:aa ae.rep 7 g aR v1.bp)(bj:aa ah.rep 4 g bf v2.ab)(bz:aa al.rep 3 g bg v2.aI)(Pq:Sub DQ g)(Ps:∀{ar:Int}{g2 h2:AH},uk ar=some r→Sub DQ g2→Sep c g2 h2 [.bx av (ZZB v1 aA az aR),.bx aK (ZZA v2 bf bg),.bx gI [.string v9.ml,vi v9.cL.e0,vi v9.cL.e1,vi v9.cL.e2,vi v9.jx,vi v9.dF.e0,vi v9.dF.e1,.bool v9.jV,.bool v9.jP],.bx Pp (ZZC np)]→sV (vi ar) h2)(H:DP c R r):Ye w0 E R (.agg ⟨[vi dE.e0,vi dE.e1,vi dE.e2]⟩) (vi jB) (ak av 0) (ak aK 0) (ak gI 0) sV h:=by
 unfold Ye;unfold agn at M;obtain⟨fD,qC,M⟩:=bind_some M;refine Gd [dE.e0,dE.e1,dE.e2] (fun q=>(vi q)) rfl qC (S.eA (ZZB v1 aA az aR) 0 rfl rfl rfl (by decide) (S.eA (ZZA v2 bf bg) 1 rfl rfl rfl (by decide) (aQ.2 ?_)));obtain⟨mn,wv,M⟩:=bind_some M;refine aBf wv rfl (S.aP 2 rfl (aBg [.string v9.ml] [v9.cL.e0,v9.cL.e1,v9.cL.e2] (fun q=>(vi q)) [vi v9.jx,vi v9.dF.e0,vi v9.dF.e1,.bool v9.jV,.bool v9.jP] wv) ?_);obtain⟨kD,vt,M⟩:=bind_some M;refine aE2 vt S.sub S.ok aH aG aS bj bz (fun _ h  S1  =>?_);have S:=S.dz S1;refine dZ.2 (bR (fun hc=>?_) (fun hc=>?_))
 · have M:=aV hc M;cases M;exact H _ _  S.bO
 · have M:=aX hc M;exact aE3 M S aH aG aS bj bz Pq Ps H
theorem aqF {w0 c g h E R r N v1 v3 dc av aA az aR bI}  (M:JO N v1 v3 dc=some r)(S:Sep c g h [.bx av (ZZB v1 aA az aR),.bx bI (ZZC v3)])(aH:aa aZ.rep 4 g aA v1.bE)(aG:aa bD.rep 4 g az v1.bw)(aS:aa ae.rep 7 g aR v1.bp)  (H:DP c R r):Yb w0 E R (ak av 0) (ak bI 0) (.bool dc) h:=by
 unfold Yb;unfold JO at M;cases hc:dc
 · have M:=aX hc M;refine au rfl (aQ.2 (au rfl (S.aP 0 rfl rfl (au rfl (aQ.2 (au rfl (S.aP 1 rfl rfl (au rfl ?_))))))));obtain⟨rv,Bm,M⟩:=bind_some M;refine aa.idx aG Bm (fun aB5 aB6 vs aB7 Gt rp=>?_);cases rp;refine au rfl (aQ.2 (au rfl (S.dK (Gt 3 _ rfl) (aW.2 ?_))));cases M;exact H _ _  S.bO
 · have M:=aV hc M;repeat refine ax (by decide) ?_;refine aW.2 ?_;cases M;exact H _ _  S.bO
theorem aE5 {w0 c g h E R r N v3 v1 bI av aA az aR}  (M:GS N v3 v1=some r)(S:Sep c g h [.bx bI (ZZC v3),.bx av (ZZB v1 aA az aR)])(aH:aa aZ.rep 4 g aA v1.bE)(aG:aa bD.rep 4 g az v1.bw)(aS:aa ae.rep 7 g aR v1.bp)  (H:DP c R r):Yc w0 E R (ak bI 0) (ak av 0) h:=by
 unfold Yc;unfold GS at M;refine aQ.2 (S.aP 0 rfl rfl (gb.2 ?_));cases hc:(!decide (v3.aJ=20))
 · have M:=aX hc M;refine au rfl (aQ.2 (au rfl (S.aP 0 rfl rfl (au rfl (fj.2 (aW.2 ?_))))));have S:=S.f1;exact aqF M S aH aG aS H
 · have M:=aV hc M;repeat refine ax (by decide) ?_;refine aW.2 ?_;have S:=S.f1;exact aqF M S aH aG aS H
theorem aE6 {w0 c g h E R r N dE v1 v2 v9 v3 jB av aA az aR aK bf bg gI bI sV uk DQ}(M:ago N dE v1 v2 v9 v3 jB uk=some r)(S:Sep c g h [.bx av (ZZB v1 aA az aR),.bx aK (ZZA v2 bf bg),.bx gI [.string v9.ml,vi v9.cL.e0,vi v9.cL.e1,vi v9.cL.e2,vi v9.jx,vi v9.dF.e0,vi v9.dF.e1,.bool v9.jV,.bool v9.jP],.bx bI (ZZC v3)])(aH:aa aZ.rep 4 g aA v1.bE)(aG:aa bD.rep 4 g az v1.bw)(aS:aa ae.rep 7 g aR v1.bp)(bj:aa ah.rep 4 g bf v2.ab)(bz:aa al.rep 3 g bg v2.aI)(Pq:Sub DQ g)(Ps:∀{ar:Int}{g2 h2:AH},uk ar=some r→Sub DQ g2→Sep c g2 h2 [.bx av (ZZB v1 aA az aR),.bx aK (ZZA v2 bf bg),.bx gI [.string v9.ml,vi v9.cL.e0,vi v9.cL.e1,vi v9.cL.e2,vi v9.jx,vi v9.dF.e0,vi v9.dF.e1,.bool v9.jV,.bool v9.jP],.bx bI (ZZC v3)]→sV (vi ar) h2)(H:DP c R r):Q2 w0 E R (.agg ⟨[vi dE.e0,vi dE.e1,vi dE.e2]⟩) (ak av 0) (ak aK 0) (ak gI 0) (ak bI 0) sV (vi jB) h:=by
 unfold Q2;unfold ago at M;refine fj.2 (bR (fun hc=>?_) (fun hc=>?_))
 · have M:=aV hc M;exact aE4 M S aH aG aS bj bz Pq Ps H
 · have M:=aX hc M;have S:=S.f3.t2;exact aE5 M S aH aG aS H
theorem aE7 {w0 c E R r N dE v1 v2 v9 v3 av aA az aR aK bf bg gI bI}   (H:DP c R r):∀(n:Nat){jB:Int}{g h:AH},Wy N dE v1 v2 v9 v3 n jB=some r→Sep c g h [.bx av (ZZB v1 aA az aR),.bx aK (ZZA v2 bf bg),.bx gI [.string v9.ml,vi v9.cL.e0,vi v9.cL.e1,vi v9.cL.e2,vi v9.jx,vi v9.dF.e0,vi v9.dF.e1,.bool v9.jV,.bool v9.jP],.bx bI (ZZC v3)]→aa aZ.rep 4 g aA v1.bE→aa bD.rep 4 g az v1.bw→aa ae.rep 7 g aR v1.bp→aa ah.rep 4 g bf v2.ab→aa al.rep 3 g bg v2.aI→gg (α:=Z) (fun k a=>Q2 w0 E R (.agg ⟨[vi dE.e0,vi dE.e1,vi dE.e2]⟩) (ak av 0) (ak aK 0) (ak gI 0) (ak bI 0) k a) n (vi jB) h:=by
 intro n
 induction n with
 | zero=>
  intro jB  g h M S aH aG aS bj bz ;unfold Wy at M;cases M
 | succ n ih=>
  intro jB  g h M S aH aG aS bj bz ;exact aE6 M S aH aG aS bj bz  (Sub.refl g) (fun M2 sub S2  =>ih M2 S2 (aa.mono aH aZ.mono sub) (aa.mono aG bD.mono sub) (aa.mono aS ae.mono sub) (aa.mono bj ah.mono sub) (aa.mono bz al.mono sub)) H
theorem aE8 {w0 c g h E R r N v3 v1 v2 v9 bI av aA az aR aK bf bg gI}  (M:Wz N v3 v1 v2 v9=some r)(S:Sep c g h [.bx bI (ZZC v3),.bx av (ZZB v1 aA az aR),.bx aK (ZZA v2 bf bg),.bx gI [.string v9.ml,vi v9.cL.e0,vi v9.cL.e1,vi v9.cL.e2,vi v9.jx,vi v9.dF.e0,vi v9.dF.e1,.bool v9.jV,.bool v9.jP]])(aH:aa aZ.rep 4 g aA v1.bE)(aG:aa bD.rep 4 g az v1.bw)(aS:aa ae.rep 7 g aR v1.bp)(bj:aa ah.rep 4 g bf v2.ab)(bz:aa al.rep 3 g bg v2.aI)  (H:DP c R r):Yf w0 E R (ak bI 0) (ak av 0) (ak aK 0) (ak gI 0) h:=by
 unfold Yf;unfold Wz at M;refine S.eA (ZZC v3) 0 rfl rfl rfl (by decide) ?_;obtain⟨eR,mL,M⟩:=bind_some M;refine NF mL S.sub S.ok (fun _ h  S1  =>?_);have S:=S.dz S1;have S:=S.f3.f3.f3;exact⟨N,aE7  H _ M S aH aG aS bj bz⟩
theorem aE9 {w0 g h Q r N x0 x1 x2 cw cx iY kB kC}(M:rA N x0 x1 x2=some r)(sg:Sub g h)(ok:h.Ok)(cg:aa aZ.rep 4 g cw x0.bE)(cz:aa bD.rep 4 g cx x0.bw)(jF:aa ae.rep 7 g iY x0.bp)(lG:aa ah.rep 4 g kB x1.ab)(nb:aa al.rep 3 g kC x1.aI)(H:DP ⟨g,h,[]⟩ (fun v=>Q (.ret v)) r):WF PP w0 Yg [(.agg ⟨(ZZB x0 cw cx iY)⟩),(.agg ⟨(ZZA x1 kB kC)⟩),(.agg ⟨(ZZC x2)⟩)] h Q:=by
 refine atd _ _ _ ?_;have S:=Sep.start sg ok;unfold ah1;unfold rA at M;refine S.box (ZZB x0 cw cx iY) rfl (ag cg.one (ag cz.one (ag jF.one (ag rfl (ag rfl rfl))))) (fun jN h S=>?_);refine S.box (ZZA x1 kB kC) rfl (ag rfl (ag rfl (ag rfl (ag rfl (ag rfl (ag lG.one (ag nb.one rfl))))))) (fun sE h S=>?_);refine S.box (ZZC x2) rfl (ag rfl (ag rfl (ag rfl (ag rfl rfl)))) (fun vo h S=>?_);refine aQ.2 (S.aP 0 rfl rfl ?_);obtain⟨fq,Be,M⟩:=bind_some M;refine Gh x2.aJ S.sub S.ok Be (fun _ h  S1  =>?_);have S:=S.dz S1;refine(fk rfl).2 ?_;refine(fk rfl).2 ?_;refine S.alloc (l:=[(.string (⟨⟨[]⟩⟩:ByteArray)),vi 0,vi 0,vi 0,vi 0,vi 0,vi 0,.bool false,.bool false]) (ag rfl (ag rfl (ag rfl (ag rfl (ag rfl (ag rfl (ag rfl (ag rfl (ag rfl rfl))))))))) (fun b_6 h S=>?_);refine S.cV [.string fq.1.ml,vi fq.1.cL.e0,vi fq.1.cL.e1,vi fq.1.cL.e2,vi fq.1.jx,vi fq.1.dF.e0,vi fq.1.dF.e1,.bool fq.1.jV,.bool fq.1.jP] [.string fq.1.ml,vi fq.1.cL.e0,vi fq.1.cL.e1,vi fq.1.cL.e2,vi fq.1.jx,vi fq.1.dF.e0,vi fq.1.dF.e1,.bool fq.1.jV,.bool fq.1.jP] rfl rfl (ag rfl (ag rfl (ag rfl (ag rfl (ag rfl (ag rfl (ag rfl (ag rfl (ag rfl rfl))))))))) (zaa rfl) rfl (fun h S=>?_);refine dZ.2 (bR (fun hc=>?_) (fun hc=>?_))
 · have M:=aV hc M;cases M;exact H _ _  S.bO
 · have M:=aX hc M;have S:=S.f2.f3.f3;exact aE8 M S cg cz jF lG nb H
def agv (N:Nat) (dv:Int) (WA:ZZD) (jr:ae) (nq:aO) (Bx:List Bool) (um:Int→(ZZD)→(List Bool)→Option ((ZZD)×Int)):Option ((ZZD)×Int):=
 um (bN .i64 (dv+1)) WA Bx
def agw (N:Nat) (v6:ZZD) (dv:Int) (jr:ae) (nq:aO) (Bx:List Bool) (um:Int→(ZZD)→(List Bool)→Option ((ZZD)×Int)):Option ((ZZD)×Int):=
(ix v6 dv).bind fun fD=>
 agv N dv (v6.set dv.toNat dv) jr nq Bx um
def GU (N:Nat) (bT:Int) (c9:aO) (cW:ae) (WB:ZZD) (WD:List Bool) (eG:Int→(ZZD)→(List Bool)→Option ((ZZD)×Int)):Option ((ZZD)×Int):=
 eG (bN .i64 (bT+1)) WB WD
def Pt (N:Nat) (gC:Int) (iw:Bool) (uo:ae) (zH:ZZD) (zI:List Bool) (js:aO) (n4:Bool→Int→(ZZD)→(List Bool)→Option ((ZZD)×Int)):Option ((ZZD)×Int):=
 n4 iw (bN .i64 (gC+1)) zH zI
def Pu (N:Nat) (v2:ae) (bT:Int) (cr:Int) (gC:Int) (zH:ZZD) (zI:List Bool) (js:aO) (n4:Bool→Int→(ZZD)→(List Bool)→Option ((ZZD)×Int)):Option ((ZZD)×Int):=
(ix v2.ab (bN .i64 ((bN .i64 (bT-cr))+gC))).bind fun wz=>
 bif (decide (wz.aJ=19))then(
 Pt N gC (decide (wz.fA=gC)) v2 zH zI js n4)else(
 Pt N gC false v2 zH zI js n4)
def WE (N:Nat) (cj:Int) (vr:ZZD) (WG:List Bool) (mq:aO) (ib:ae) (fG:Int→(ZZD)→(List Bool)→Option ((ZZD)×Int)):Option ((ZZD)×Int):=
 fG (bN .i64 (cj+1)) vr WG
def Pv (N:Nat) (bT:Int) (cr:Int) (v6:ZZD) (cj:Int) (v10:List Bool) (mq:aO) (ib:ae) (fG:Int→(ZZD)→(List Bool)→Option ((ZZD)×Int)):Option ((ZZD)×Int):=
(ix v6 cj).bind fun WH=>
(ix v10 cj).bind fun U6=>
 WE N cj (v6.set cj.toNat (bN .i64 (bT-cr))) (v10.set cj.toNat true) mq ib fG
def Pw (N:Nat) (bT:Int) (cr:Int) (v6:ZZD) (v10:List Bool) (cj:Int) (c9:aO) (cW:ae) (eG:Int→(ZZD)→(List Bool)→Option ((ZZD)×Int)) (fG:Int→(ZZD)→(List Bool)→Option ((ZZD)×Int)):Option ((ZZD)×Int):=
 bif (decide (cj≤bT))then(
 Pv N bT cr v6 cj v10 c9 cW fG)else(
 GU N bT c9 cW v6 v10 eG)
def GV (N:Nat) (bT:Int) (cr:Int) (c9:aO) (cW:ae) (eG:Int→(ZZD)→(List Bool)→Option ((ZZD)×Int)):Nat→(ZZD)→(List Bool)→Int→Option ((ZZD)×Int) | 0,_,_,_=>none | n+1,v6,v10,cj=>Pw N bT cr v6 v10 cj c9 cW eG (fun ar di bY=>GV N bT cr c9 cW eG n di bY ar)
def Px (N:Nat) (bT:Int) (cr:Int) (v6:ZZD) (v10:List Bool) (c9:aO) (cW:ae) (eG:Int→(ZZD)→(List Bool)→Option ((ZZD)×Int)):Option ((ZZD)×Int):=
 GV N bT cr c9 cW eG N v6 v10 (bN .i64 (bT-cr))
def Py (N:Nat) (bT:Int) (cr:Int) (v6:ZZD) (v10:List Bool) (ny:Bool) (c9:aO) (cW:ae) (eG:Int→(ZZD)→(List Bool)→Option ((ZZD)×Int)):Option ((ZZD)×Int):=
 bif (!ny)then(
 GU N bT c9 cW v6 v10 eG)else(
 Px N bT cr v6 v10 c9 cW eG)
def Pz (N:Nat) (v2:ae) (bT:Int) (cr:Int) (gC:Int) (v6:ZZD) (v10:List Bool) (lM:Bool) (v93:Bool) (js:aO) (n4:Bool→Int→(ZZD)→(List Bool)→Option ((ZZD)×Int)) (eG:Int→(ZZD)→(List Bool)→Option ((ZZD)×Int)):Option ((ZZD)×Int):=
 bif v93 then(
 Pu N v2 bT cr gC v6 v10 js n4)else(
 Py N bT cr v6 v10 lM js v2 eG)
def PA (N:Nat) (cr:Int) (v2:ae) (bT:Int) (v6:ZZD) (v10:List Bool) (lM:Bool) (gC:Int) (c9:aO) (eG:Int→(ZZD)→(List Bool)→Option ((ZZD)×Int)) (n4:Bool→Int→(ZZD)→(List Bool)→Option ((ZZD)×Int)):Option ((ZZD)×Int):=
 bif lM then(
 Pz N v2 bT cr gC v6 v10 true (decide (gC<cr)) c9 n4 eG)else(
 Pz N v2 bT cr gC v6 v10 false false c9 n4 eG)
def JP (N:Nat) (cr:Int) (v2:ae) (bT:Int) (c9:aO) (eG:Int→(ZZD)→(List Bool)→Option ((ZZD)×Int)):Nat→(ZZD)→(List Bool)→Bool→Int→Option ((ZZD)×Int) | 0,_,_,_,_=>none | n+1,v6,v10,lM,gC=>PA N cr v2 bT v6 v10 lM gC c9 eG (fun ar cd bY dH=>JP N cr v2 bT c9 eG n bY dH ar cd)
def JQ (N:Nat) (v1:aO) (v49:Int) (bT:Int) (v2:ae) (v6:ZZD) (v10:List Bool) (eG:Int→(ZZD)→(List Bool)→Option ((ZZD)×Int)):Option ((ZZD)×Int):=
(ix v1.bw v49).bind fun pU=>
 JP N pU.fArgs v2 bT v1 eG N v6 v10 (decide (pU.fArgs≤bT)) 0
def GW (N:Nat) (v37:List ah) (bT:Int) (v1:aO) (v2:ae) (v6:ZZD) (v10:List Bool) (eG:Int→(ZZD)→(List Bool)→Option ((ZZD)×Int)):Option ((ZZD)×Int):=
(ix v37 bT).bind fun pZ=>
(DO pZ).bind fun ia=>
 bif (!ia.2)then(
 GU N bT v1 v2 v6 v10 eG)else(
 JQ N v1 ia.1 bT v2 v6 v10 eG)
def WI (N:Nat) (bL:Int) (px:List Bool) (WJ:ZZD) (gV:Int→(List Bool)→(ZZD)→Option ((ZZD)×Int)):Option ((ZZD)×Int):=
 gV (bN .i64 (bL+1)) px WJ
def PB (N:Nat) (v6:ZZD) (bL:Int) (dM:Bool) (px:List Bool) (gV:Int→(List Bool)→(ZZD)→Option ((ZZD)×Int)):Option ((ZZD)×Int):=
 bif dM then(
 some (v6,bL))else(
 WI N bL px v6 gV)
def PC (N:Nat) (v10:List Bool) (bL:Int) (v6:ZZD) (du:Bool) (gV:Int→(List Bool)→(ZZD)→Option ((ZZD)×Int)):Option ((ZZD)×Int):=
 bif du then(
(ix v10 bL).bind fun aqG=>
 PB N v6 bL (!aqG) v10 gV)else(
 PB N v6 bL false v10 gV)
def PD (N:Nat) (v12:List ah) (bL:Int) (v10:List Bool) (v6:ZZD) (gV:Int→(List Bool)→(ZZD)→Option ((ZZD)×Int)):Option ((ZZD)×Int):=
(ix v12 bL).bind fun sK=>
(DO sK).bind fun agx=>
 bif agx.2 then(
 PC N v10 bL v6 true gV)else(
 PC N v10 bL v6 (decide (sK.aJ=19)) gV)
def WK (N:Nat) (v6:ZZD)  :Option ((ZZD)×Int):=
 some (v6,(-1))
def agy (N:Nat) (bW:Int) (v12:List ah) (v10:List Bool) (v6:ZZD) (bL:Int) (gV:Int→(List Bool)→(ZZD)→Option ((ZZD)×Int)):Option ((ZZD)×Int):=
 bif (decide (bL<bW))then(
 PD N v12 bL v10 v6 gV)else(
 WK N v6)
def PE (N:Nat) (bW:Int) (v12:List ah)  :Nat→(List Bool)→(ZZD)→Int→Option ((ZZD)×Int) | 0,_,_,_=>none | n+1,v10,v6,bL=>agy N bW v12 v10 v6 bL  (fun ar di bY=>PE N bW v12 n di bY ar)
def PF (N:Nat) (v2:ae) (v10:List Bool) (v6:ZZD)  :Option ((ZZD)×Int):=
 PE N (v2.ab.length:Int) v2.ab N v10 v6 0
def agz (N:Nat) (eT:Int) (v37:List ah) (v1:aO) (v2:ae) (v6:ZZD) (v10:List Bool) (bT:Int) (eG:Int→(ZZD)→(List Bool)→Option ((ZZD)×Int)):Option ((ZZD)×Int):=
 bif (decide (bT<eT))then(
 GW N v37 bT v1 v2 v6 v10 eG)else(
 PF N v2 v10 v6)
def DT (N:Nat) (eT:Int) (v37:List ah) (v1:aO) (v2:ae)  :Nat→(ZZD)→(List Bool)→Int→Option ((ZZD)×Int) | 0,_,_,_=>none | n+1,v6,v10,bT=>agz N eT v37 v1 v2 v6 v10 bT  (fun ar dH ey=>DT N eT v37 v1 v2 n dH ey ar)
def PG (N:Nat) (v2:ae) (v1:aO) (v6:ZZD) (v10:List Bool)  :Option ((ZZD)×Int):=
 DT N (v2.ab.length:Int) v2.ab v1 v2 N v6 v10 0
def agA (N:Nat) (mR:Int) (v6:ZZD) (v2:ae) (v1:aO) (v10:List Bool) (dv:Int) (um:Int→(ZZD)→(List Bool)→Option ((ZZD)×Int)):Option ((ZZD)×Int):=
 bif (decide (dv<mR))then(
 agw N v6 dv v2 v1 v10 um)else(
 PG N v2 v1 v6 v10)
def GX (N:Nat) (mR:Int) (v2:ae) (v1:aO)  :Nat→(ZZD)→(List Bool)→Int→Option ((ZZD)×Int) | 0,_,_,_=>none | n+1,v6,v10,dv=>agA N mR v6 v2 v1 v10 dv  (fun ar di ey=>GX N mR v2 v1 n di ey ar)
def PH (N:Nat) (x0:aO) (x1:ae):Option ((ZZD)×Int):=
 gu (decide (0≤(x1.ab.length:Int))&&decide ((x1.ab.length:Int)≤65536)) (
 gu (decide (0≤(x1.ab.length:Int))&&decide ((x1.ab.length:Int)≤65536)) (
 GX N (x1.ab.length:Int) x1 x0 N (List.replicate (x1.ab.length:Int).toNat 0) (List.replicate (x1.ab.length:Int).toNat false) 0))
abbrev ki (c:Cx) (R:ZZF) (r:(ZZD)×Int):Prop:=∀(g' h':AH) (w1:Z),Sep c g' h' []→aa (rI .i64) 1 g' w1 r.1→R (.tuple ⟨[w1,vi r.2]⟩) h'
theorem aFa {w0 c g h E R r N dv WA jr nq Bx aqH aqI JR DU DV JS DW DX DY JT JU sX um DZ}(M:agv N dv WA jr nq Bx um=some r)(S:Sep c g h [.sl 3 1 aqH aqI,.bx JR (ZZA jr DU DV),.bx JS (ZZB nq DW DX DY),.sl 4 1 JT JU])(aFb:aw ((rI .i64) g) aqI WA)(aqJ:aa ah.rep 4 g DU jr.ab)(aqK:aa al.rep 3 g DV jr.aI)(aqL:aa aZ.rep 4 g DW nq.bE)(aqM:aa bD.rep 4 g DX nq.bw)(aqN:aa ae.rep 7 g DY nq.bp)(agB:aw (rB g) JU Bx)(PI:Sub DZ g)(PJ:∀{ar:Int}{di:ZZD}{fK:List (ZZE)}{ey:List Bool}{gW:List (ZZE)}{g2 h2:AH},um ar di ey=some r→Sub DZ g2→Sep c g2 h2 [.sl 3 1 aqH fK,.bx JR (ZZA jr DU DV),.bx JS (ZZB nq DW DX DY),.sl 4 1 JT gW]→aw ((rI .i64) g2) fK di→aw (rB g2) gW ey→sX (vi ar) h2)(H:ki c R r):YC w0 E R (vi dv) sX h:=by
 unfold YC;unfold agv at M;refine gE.2 ?_;exact PJ M PI S aFb agB
theorem aFc {w0 c g h E R r N v6 dv jr nq Bx cC da JR DU DV JS DW DX DY JT JU sX um DZ}(M:agw N v6 dv jr nq Bx um=some r)(S:Sep c g h [.sl 3 1 cC da,.bx JR (ZZA jr DU DV),.bx JS (ZZB nq DW DX DY),.sl 4 1 JT JU])(ep:aw ((rI .i64) g) da v6)(aqJ:aa ah.rep 4 g DU jr.ab)(aqK:aa al.rep 3 g DV jr.aI)(aqL:aa aZ.rep 4 g DW nq.bE)(aqM:aa bD.rep 4 g DX nq.bw)(aqN:aa ae.rep 7 g DY nq.bp)(agB:aw (rB g) JU Bx)(PI:Sub DZ g)(PJ:∀{ar:Int}{di:ZZD}{fK:List (ZZE)}{ey:List Bool}{gW:List (ZZE)}{g2 h2:AH},um ar di ey=some r→Sub DZ g2→Sep c g2 h2 [.sl 3 1 cC fK,.bx JR (ZZA jr DU DV),.bx JS (ZZB nq DW DX DY),.sl 4 1 JT gW]→aw ((rI .i64) g2) fK di→aw (rB g2) gW ey→sX (vi ar) h2)(H:ki c R r):YD w0 E R cC (vi dv) sX h:=by
 unfold YD;unfold agw at M;obtain⟨fD,qC,M⟩:=bind_some M;refine S.mF 0 rfl ep qC (fun ao4 aB1 vs aqB aFd rp=>?_);cases rp;refine S.Bb (j:=0) [vi dv] aqB aFd rfl rfl (ag rfl rfl) (by decide) (fun h S=>?_);have aFe:aw ((rI .i64) g) (da.set dv.toNat [vi dv]) (v6.set dv.toNat dv):=aw.set ep (show(rI .i64) g [vi dv] dv from rfl) dv.toNat;have S:Sep _ g h [.sl 3 1 cC (da.set dv.toNat [vi dv]),.bx JR (ZZA jr DU DV),.bx JS (ZZB nq DW DX DY),.sl 4 1 JT JU]:=S;exact aFa M S aFe aqJ aqK aqL aqM aqN agB PI PJ H
theorem agC {w0 c g h E R r N bT c9 cW WB WD nr kH kI kJ sL oF oG aqO aqP aqQ aqR ff eG jR}(M:GU N bT c9 cW WB WD eG=some r)(S:Sep c g h [.bx nr (ZZB c9 kH kI kJ),.bx sL (ZZA cW oF oG),.sl 3 1 aqO aqP,.sl 4 1 aqQ aqR])(pz:aa aZ.rep 4 g kH c9.bE)(pA:aa bD.rep 4 g kI c9.bw)(pB:aa ae.rep 7 g kJ c9.bp)(wA:aa ah.rep 4 g oF cW.ab)(wB:aa al.rep 3 g oG cW.aI)(aFf:aw ((rI .i64) g) aqP WB)(aFg:aw (rB g) aqR WD)(la:Sub jR g)(mr:∀{ar:Int}{dH:ZZD}{fe:List (ZZE)}{ey:List Bool}{gW:List (ZZE)}{g2 h2:AH},eG ar dH ey=some r→Sub jR g2→Sep c g2 h2 [.bx nr (ZZB c9 kH kI kJ),.bx sL (ZZA cW oF oG),.sl 3 1 aqO fe,.sl 4 1 aqQ gW]→aw ((rI .i64) g2) fe dH→aw (rB g2) gW ey→ff (vi ar) h2)(H:ki c R r):Kt w0 E R (vi bT) ff h:=by
 unfold Kt;unfold GU at M;refine gE.2 ?_;exact mr M la S aFf aFg
theorem aqS {w0 c g h E R r N gC iw uo zH zI js aqT agD agE PK PL PM PN By wC wD wE oP n4 xQ}(M:Pt N gC iw uo zH zI js n4=some r)(S:Sep c g h [.bx aqT (ZZA uo agD agE),.sl 3 1 PK PL,.sl 4 1 PM PN,.bx By (ZZB js wC wD wE)])(aLo:aa ah.rep 4 g agD uo.ab)(aLp:aa al.rep 3 g agE uo.aI)(WM:aw ((rI .i64) g) PL zH)(WN:aw (rB g) PN zI)(JV:aa aZ.rep 4 g wC js.bE)(JW:aa bD.rep 4 g wD js.bw)(JX:aa ae.rep 7 g wE js.bp)(Bz:Sub xQ g)(BA:∀{ar:Bool}{cd:Int}{bY:ZZD}{eg:List (ZZE)}{dH:List Bool}{fe:List (ZZE)}{g2 h2:AH},n4 ar cd bY dH=some r→Sub xQ g2→Sep c g2 h2 [.bx aqT (ZZA uo agD agE),.sl 3 1 PK eg,.sl 4 1 PM fe,.bx By (ZZB js wC wD wE)]→aw ((rI .i64) g2) eg bY→aw (rB g2) fe dH→oP (.bool ar) (vi cd) h2)(H:ki c R r):Yw w0 E R (vi gC) oP (.bool iw) h:=by
 unfold Yw;unfold Pt at M;refine gE.2 ?_;exact BA M Bz S WM WN
theorem aFh {w0 c g h E R r N v2 bT cr gC zH zI js aK bf bg PK PL PM PN By wC wD wE oP n4 xQ}(M:Pu N v2 bT cr gC zH zI js n4=some r)(S:Sep c g h [.bx aK (ZZA v2 bf bg),.sl 3 1 PK PL,.sl 4 1 PM PN,.bx By (ZZB js wC wD wE)])(bj:aa ah.rep 4 g bf v2.ab)(bz:aa al.rep 3 g bg v2.aI)(WM:aw ((rI .i64) g) PL zH)(WN:aw (rB g) PN zI)(JV:aa aZ.rep 4 g wC js.bE)(JW:aa bD.rep 4 g wD js.bw)(JX:aa ae.rep 7 g wE js.bp)(Bz:Sub xQ g)(BA:∀{ar:Bool}{cd:Int}{bY:ZZD}{eg:List (ZZE)}{dH:List Bool}{fe:List (ZZE)}{g2 h2:AH},n4 ar cd bY dH=some r→Sub xQ g2→Sep c g2 h2 [.bx aK (ZZA v2 bf bg),.sl 3 1 PK eg,.sl 4 1 PM fe,.bx By (ZZB js wC wD wE)]→aw ((rI .i64) g2) eg bY→aw (rB g2) fe dH→oP (.bool ar) (vi cd) h2)(H:ki c R r):Yx w0 E R (ak aK 0) (vi bT) (vi cr) (vi gC) oP h:=by
 unfold Yx;unfold Pu at M;refine aQ.2 (S.aP 0 rfl rfl (lB.2 (gE.2 ?_)));obtain⟨wz,aFi,M⟩:=bind_some M;refine aa.idx bj aFi (fun aLq aLr vs aLs aFj rp=>?_);cases rp;refine S.iX aFj rfl (by decide) (S.alloc (l:=[vi 0,vi 0,vi 0,vi 0]) (ag rfl (ag rfl (ag rfl (ag rfl rfl)))) (fun aLt h S=>?_));refine S.cV (ZZC wz) (ZZC wz) rfl rfl (ag rfl (ag rfl (ag rfl (ag rfl rfl)))) (zaa rfl) rfl (fun h S=>?_);refine aQ.2 (S.aP 0 rfl rfl (gr.2 ?_));cases hc:(decide (wz.aJ=19))
 · have M:=aX hc M;repeat refine ax (by decide) ?_;refine aW.2 ?_;have S:=S.f4.f4.f4.f4.t4;exact aqS M S bj bz WM WN JV JW JX Bz BA H
 · have M:=aV hc M;refine au rfl (aQ.2 (au rfl (S.aP 0 rfl rfl (au rfl (au rfl (gr.2 (aW.2 ?_)))))));have S:=S.f4.f4.f4.f4.t4;exact aqS M S bj bz WM WN JV JW JX Bz BA H
theorem aFk {w0 c g h E R r N cj vr WG mq ib Dj zv aqU aqV GY BB BC BD GZ BE BF fF fG lH}(M:WE N cj vr WG mq ib fG=some r)(S:Sep c g h [.sl 3 1 Dj zv,.sl 4 1 aqU aqV,.bx GY (ZZB mq BB BC BD),.bx GZ (ZZA ib BE BF)])(VZ:aw ((rI .i64) g) zv vr)(aFl:aw (rB g) aqV WG)(aqW:aa aZ.rep 4 g BB mq.bE)(aqX:aa bD.rep 4 g BC mq.bw)(aqY:aa ae.rep 7 g BD mq.bp)(aqZ:aa ah.rep 4 g BE ib.ab)(aq0:aa al.rep 3 g BF ib.aI)(nV:Sub lH g)(nW:∀{ar:Int}{di:ZZD}{fK:List (ZZE)}{bY:List Bool}{eg:List (ZZE)}{g2 h2:AH},fG ar di bY=some r→Sub lH g2→Sep c g2 h2 [.sl 3 1 Dj fK,.sl 4 1 aqU eg,.bx GY (ZZB mq BB BC BD),.bx GZ (ZZA ib BE BF)]→aw ((rI .i64) g2) fK di→aw (rB g2) eg bY→fF (vi ar) h2)(H:ki c R r):Ys w0 E R (vi cj) fF h:=by
 unfold Ys;unfold WE at M;refine gE.2 ?_;exact nW M nV S VZ aFl
theorem aFm {w0 c g h E R r N bT cr v6 cj v10 mq ib cC da dq dL GY BB BC BD GZ BE BF fF fG lH}(M:Pv N bT cr v6 cj v10 mq ib fG=some r)(S:Sep c g h [.sl 3 1 cC da,.sl 4 1 dq dL,.bx GY (ZZB mq BB BC BD),.bx GZ (ZZA ib BE BF)])(ep:aw ((rI .i64) g) da v6)(eS:aw (rB g) dL v10)(aqW:aa aZ.rep 4 g BB mq.bE)(aqX:aa bD.rep 4 g BC mq.bw)(aqY:aa ae.rep 7 g BD mq.bp)(aqZ:aa ah.rep 4 g BE ib.ab)(aq0:aa al.rep 3 g BF ib.aI)(nV:Sub lH g)(nW:∀{ar:Int}{di:ZZD}{fK:List (ZZE)}{bY:List Bool}{eg:List (ZZE)}{g2 h2:AH},fG ar di bY=some r→Sub lH g2→Sep c g2 h2 [.sl 3 1 cC fK,.sl 4 1 dq eg,.bx GY (ZZB mq BB BC BD),.bx GZ (ZZA ib BE BF)]→aw ((rI .i64) g2) fK di→aw (rB g2) eg bY→fF (vi ar) h2)(H:ki c R r):Yt w0 E R (vi bT) (vi cr) cC (vi cj) dq fF h:=by
 unfold Yt;unfold Pv at M;refine lB.2 ?_;obtain⟨WH,agF,M⟩:=bind_some M;refine S.mF 0 rfl ep agF (fun aFn aFo vs aFp aFq rp=>?_);cases rp;refine S.Bb (j:=0) [(vi (bN .i64 (bT-cr)))] aFp aFq rfl rfl (ag rfl rfl) (by decide) (fun h S=>?_);have aFr:aw ((rI .i64) g) (da.set cj.toNat [(vi (bN .i64 (bT-cr)))]) (v6.set cj.toNat (bN .i64 (bT-cr))):=aw.set ep (show(rI .i64) g [(vi (bN .i64 (bT-cr)))] (bN .i64 (bT-cr))from rfl) cj.toNat;have S:Sep _ g h [.sl 3 1 cC (da.set cj.toNat [(vi (bN .i64 (bT-cr)))]),.sl 4 1 dq dL,.bx GY (ZZB mq BB BC BD),.bx GZ (ZZA ib BE BF)]:=S;obtain⟨U6,aep,M⟩:=bind_some M;refine S.mF 1 rfl eS aep (fun aLu aLv vs aq1 aFs rp=>?_);cases rp;have S:=S.f1;refine S.Bb (j:=0) [.bool true] aq1 aFs rfl rfl (ag rfl rfl) (by decide) (fun h S=>?_);have aFt:aw (rB g) (dL.set cj.toNat [.bool true]) (v10.set cj.toNat true):=aw.set eS (show rB g [.bool true] true from rfl) cj.toNat;have S:Sep _ g h [.sl 4 1 dq (dL.set cj.toNat [.bool true]),.sl 3 1 cC (da.set cj.toNat [(vi (bN .i64 (bT-cr)))]),.bx GY (ZZB mq BB BC BD),.bx GZ (ZZA ib BE BF)]:=S;have S:=S.f3.f3.f2.f3;exact aFk M S aFr aFt aqW aqX aqY aqZ aq0 nV nW H
theorem aFu {w0 c g h E R r N bT cr v6 v10 cj c9 cW cC da dq dL nr kH kI kJ sL oF oG ff eG jR fF fG lH}(M:Pw N bT cr v6 v10 cj c9 cW eG fG=some r)(S:Sep c g h [.sl 3 1 cC da,.sl 4 1 dq dL,.bx nr (ZZB c9 kH kI kJ),.bx sL (ZZA cW oF oG)])(ep:aw ((rI .i64) g) da v6)(eS:aw (rB g) dL v10)(pz:aa aZ.rep 4 g kH c9.bE)(pA:aa bD.rep 4 g kI c9.bw)(pB:aa ae.rep 7 g kJ c9.bp)(wA:aa ah.rep 4 g oF cW.ab)(wB:aa al.rep 3 g oG cW.aI)(la:Sub jR g)(mr:∀{ar:Int}{dH:ZZD}{fe:List (ZZE)}{ey:List Bool}{gW:List (ZZE)}{g2 h2:AH},eG ar dH ey=some r→Sub jR g2→Sep c g2 h2 [.bx nr (ZZB c9 kH kI kJ),.bx sL (ZZA cW oF oG),.sl 3 1 cC fe,.sl 4 1 dq gW]→aw ((rI .i64) g2) fe dH→aw (rB g2) gW ey→ff (vi ar) h2)(nV:Sub lH g)(nW:∀{ar:Int}{di:ZZD}{fK:List (ZZE)}{bY:List Bool}{eg:List (ZZE)}{g2 h2:AH},fG ar di bY=some r→Sub lH g2→Sep c g2 h2 [.sl 3 1 cC fK,.sl 4 1 dq eg,.bx nr (ZZB c9 kH kI kJ),.bx sL (ZZA cW oF oG)]→aw ((rI .i64) g2) fK di→aw (rB g2) eg bY→fF (vi ar) h2)(H:ki c R r):Q7 w0 E R (vi bT) (vi cr) cC dq ff fF (vi cj) h:=by
 unfold Q7;unfold Pw at M;refine o8.2 (bR (fun hc=>?_) (fun hc=>?_))
 · have M:=aV hc M;exact aFm M S ep eS pz pA pB wA wB nV nW H
 · have M:=aX hc M;have S:=S.f1.f1.f3.f3;exact agC M S pz pA pB wA wB ep eS la mr H
theorem aFv {w0 c E R r N bT cr c9 cW cC dq nr kH kI kJ sL oF oG ff eG jR}(mr:∀{ar:Int}{dH:ZZD}{fe:List (ZZE)}{ey:List Bool}{gW:List (ZZE)}{g2 h2:AH},eG ar dH ey=some r→Sub jR g2→Sep c g2 h2 [.bx nr (ZZB c9 kH kI kJ),.bx sL (ZZA cW oF oG),.sl 3 1 cC fe,.sl 4 1 dq gW]→aw ((rI .i64) g2) fe dH→aw (rB g2) gW ey→ff (vi ar) h2)(H:ki c R r):∀(n:Nat){v6:ZZD}{v10:List Bool}{cj:Int}{da dL:List (ZZE)}{g h:AH},GV N bT cr c9 cW eG n v6 v10 cj=some r→Sep c g h [.sl 3 1 cC da,.sl 4 1 dq dL,.bx nr (ZZB c9 kH kI kJ),.bx sL (ZZA cW oF oG)]→aw ((rI .i64) g) da v6→aw (rB g) dL v10→aa aZ.rep 4 g kH c9.bE→aa bD.rep 4 g kI c9.bw→aa ae.rep 7 g kJ c9.bp→aa ah.rep 4 g oF cW.ab→aa al.rep 3 g oG cW.aI→Sub jR g→gg (α:=Z) (fun k a=>Q7 w0 E R (vi bT) (vi cr) cC dq ff k a) n (vi cj) h:=by
 intro n
 induction n with
 | zero=>
  intro v6 v10 cj da dL g h M S ep eS pz pA pB wA wB la;unfold GV at M;cases M
 | succ n ih=>
  intro v6 v10 cj da dL g h M S ep eS pz pA pB wA wB la;exact aFu M S ep eS pz pA pB wA wB la mr (Sub.refl g) (fun M2 sub S2 Bc xE=>ih M2 S2 Bc xE (aa.mono pz aZ.mono sub) (aa.mono pA bD.mono sub) (aa.mono pB ae.mono sub) (aa.mono wA ah.mono sub) (aa.mono wB al.mono sub) (Sub.trans la sub)) H
theorem aFw {w0 c g h E R r N bT cr v6 v10 c9 cW cC da dq dL nr kH kI kJ sL oF oG ff eG jR}(M:Px N bT cr v6 v10 c9 cW eG=some r)(S:Sep c g h [.sl 3 1 cC da,.sl 4 1 dq dL,.bx nr (ZZB c9 kH kI kJ),.bx sL (ZZA cW oF oG)])(ep:aw ((rI .i64) g) da v6)(eS:aw (rB g) dL v10)(pz:aa aZ.rep 4 g kH c9.bE)(pA:aa bD.rep 4 g kI c9.bw)(pB:aa ae.rep 7 g kJ c9.bp)(wA:aa ah.rep 4 g oF cW.ab)(wB:aa al.rep 3 g oG cW.aI)(la:Sub jR g)(mr:∀{ar:Int}{dH:ZZD}{fe:List (ZZE)}{ey:List Bool}{gW:List (ZZE)}{g2 h2:AH},eG ar dH ey=some r→Sub jR g2→Sep c g2 h2 [.bx nr (ZZB c9 kH kI kJ),.bx sL (ZZA cW oF oG),.sl 3 1 cC fe,.sl 4 1 dq gW]→aw ((rI .i64) g2) fe dH→aw (rB g2) gW ey→ff (vi ar) h2)(H:ki c R r):Yu w0 E R (vi bT) (vi cr) cC dq ff h:=by
 unfold Yu;unfold Px at M;refine lB.2 ?_;exact⟨N,aFv mr H _ M S ep eS pz pA pB wA wB la⟩
theorem aFx {w0 c g h E R r N bT cr v6 v10 ny c9 cW cC da dq dL nr kH kI kJ sL oF oG ff eG jR}(M:Py N bT cr v6 v10 ny c9 cW eG=some r)(S:Sep c g h [.sl 3 1 cC da,.sl 4 1 dq dL,.bx nr (ZZB c9 kH kI kJ),.bx sL (ZZA cW oF oG)])(ep:aw ((rI .i64) g) da v6)(eS:aw (rB g) dL v10)(pz:aa aZ.rep 4 g kH c9.bE)(pA:aa bD.rep 4 g kI c9.bw)(pB:aa ae.rep 7 g kJ c9.bp)(wA:aa ah.rep 4 g oF cW.ab)(wB:aa al.rep 3 g oG cW.aI)(la:Sub jR g)(mr:∀{ar:Int}{dH:ZZD}{fe:List (ZZE)}{ey:List Bool}{gW:List (ZZE)}{g2 h2:AH},eG ar dH ey=some r→Sub jR g2→Sep c g2 h2 [.bx nr (ZZB c9 kH kI kJ),.bx sL (ZZA cW oF oG),.sl 3 1 cC fe,.sl 4 1 dq gW]→aw ((rI .i64) g2) fe dH→aw (rB g2) gW ey→ff (vi ar) h2)(H:ki c R r):Yv w0 E R (vi bT) ff (vi cr) cC dq (.bool ny) h:=by
 unfold Yv;unfold Py at M;refine dZ.2 (bR (fun hc=>?_) (fun hc=>?_))
 · have M:=aV hc M;have S:=S.f1.f1.f3.f3;exact agC M S pz pA pB wA wB ep eS la mr H
 · have M:=aX hc M;exact aFw M S ep eS pz pA pB wA wB la mr H
theorem aq2 {w0 c g h E R r N v2 bT cr gC v6 v10 lM v93 js aK bf bg cC da dq dL By wC wD wE oP n4 xQ ff eG jR}(M:Pz N v2 bT cr gC v6 v10 lM v93 js n4 eG=some r)(S:Sep c g h [.bx aK (ZZA v2 bf bg),.sl 3 1 cC da,.sl 4 1 dq dL,.bx By (ZZB js wC wD wE)])(bj:aa ah.rep 4 g bf v2.ab)(bz:aa al.rep 3 g bg v2.aI)(ep:aw ((rI .i64) g) da v6)(eS:aw (rB g) dL v10)(JV:aa aZ.rep 4 g wC js.bE)(JW:aa bD.rep 4 g wD js.bw)(JX:aa ae.rep 7 g wE js.bp)(Bz:Sub xQ g)(BA:∀{ar:Bool}{cd:Int}{bY:ZZD}{eg:List (ZZE)}{dH:List Bool}{fe:List (ZZE)}{g2 h2:AH},n4 ar cd bY dH=some r→Sub xQ g2→Sep c g2 h2 [.bx aK (ZZA v2 bf bg),.sl 3 1 cC eg,.sl 4 1 dq fe,.bx By (ZZB js wC wD wE)]→aw ((rI .i64) g2) eg bY→aw (rB g2) fe dH→oP (.bool ar) (vi cd) h2)(la:Sub jR g)(mr:∀{ar:Int}{dH:ZZD}{fe:List (ZZE)}{ey:List Bool}{gW:List (ZZE)}{g2 h2:AH},eG ar dH ey=some r→Sub jR g2→Sep c g2 h2 [.bx By (ZZB js wC wD wE),.bx aK (ZZA v2 bf bg),.sl 3 1 cC fe,.sl 4 1 dq gW]→aw ((rI .i64) g2) fe dH→aw (rB g2) gW ey→ff (vi ar) h2)(H:ki c R r):Yy w0 E R (ak aK 0) (vi bT) (vi cr) (vi gC) oP ff cC dq (.bool lM) (.bool v93) h:=by
 unfold Yy;unfold Pz at M;refine bR (fun hc=>?_) (fun hc=>?_)
 · have M:=aV hc M;exact aFh M S bj bz ep eS JV JW JX Bz BA H
 · have M:=aX hc M;have S:=S.f3.f3.f3;exact aFx M S ep eS JV JW JX bj bz la mr H
theorem aFy {w0 c g h E R r N cr v2 bT v6 v10 lM gC c9 aK bf bg cC da dq dL nr kH kI kJ ff eG jR oP n4 xQ}(M:PA N cr v2 bT v6 v10 lM gC c9 eG n4=some r)(S:Sep c g h [.bx aK (ZZA v2 bf bg),.sl 3 1 cC da,.sl 4 1 dq dL,.bx nr (ZZB c9 kH kI kJ)])(bj:aa ah.rep 4 g bf v2.ab)(bz:aa al.rep 3 g bg v2.aI)(ep:aw ((rI .i64) g) da v6)(eS:aw (rB g) dL v10)(pz:aa aZ.rep 4 g kH c9.bE)(pA:aa bD.rep 4 g kI c9.bw)(pB:aa ae.rep 7 g kJ c9.bp)(la:Sub jR g)(mr:∀{ar:Int}{dH:ZZD}{fe:List (ZZE)}{ey:List Bool}{gW:List (ZZE)}{g2 h2:AH},eG ar dH ey=some r→Sub jR g2→Sep c g2 h2 [.bx nr (ZZB c9 kH kI kJ),.bx aK (ZZA v2 bf bg),.sl 3 1 cC fe,.sl 4 1 dq gW]→aw ((rI .i64) g2) fe dH→aw (rB g2) gW ey→ff (vi ar) h2)(Bz:Sub xQ g)(BA:∀{ar:Bool}{cd:Int}{bY:ZZD}{eg:List (ZZE)}{dH:List Bool}{fe:List (ZZE)}{g2 h2:AH},n4 ar cd bY dH=some r→Sub xQ g2→Sep c g2 h2 [.bx aK (ZZA v2 bf bg),.sl 3 1 cC eg,.sl 4 1 dq fe,.bx nr (ZZB c9 kH kI kJ)]→aw ((rI .i64) g2) eg bY→aw (rB g2) fe dH→oP (.bool ar) (vi cd) h2)(H:ki c R r):Q8 w0 E R (vi cr) (ak aK 0) (vi bT) ff cC dq oP (.bool lM) (vi gC) h:=by
 unfold Q8;unfold PA at M;cases hc:lM
 · have M:=aX hc M;repeat refine ax (by decide) ?_;refine aW.2 ?_;exact aq2 M S bj bz ep eS pz pA pB Bz BA la mr H
 · have M:=aV hc M;refine au rfl (au rfl (au rfl (fj.2 (aW.2 ?_))));exact aq2 M S bj bz ep eS pz pA pB Bz BA la mr H
theorem aFz {w0 c E R r N cr v2 bT c9 aK bf bg cC dq nr kH kI kJ ff eG jR}(mr:∀{ar:Int}{dH:ZZD}{fe:List (ZZE)}{ey:List Bool}{gW:List (ZZE)}{g2 h2:AH},eG ar dH ey=some r→Sub jR g2→Sep c g2 h2 [.bx nr (ZZB c9 kH kI kJ),.bx aK (ZZA v2 bf bg),.sl 3 1 cC fe,.sl 4 1 dq gW]→aw ((rI .i64) g2) fe dH→aw (rB g2) gW ey→ff (vi ar) h2)(H:ki c R r):∀(n:Nat){v6:ZZD}{v10:List Bool}{lM:Bool}{gC:Int}{da dL:List (ZZE)}{g h:AH},JP N cr v2 bT c9 eG n v6 v10 lM gC=some r→Sep c g h [.bx aK (ZZA v2 bf bg),.sl 3 1 cC da,.sl 4 1 dq dL,.bx nr (ZZB c9 kH kI kJ)]→aa ah.rep 4 g bf v2.ab→aa al.rep 3 g bg v2.aI→aw ((rI .i64) g) da v6→aw (rB g) dL v10→aa aZ.rep 4 g kH c9.bE→aa bD.rep 4 g kI c9.bw→aa ae.rep 7 g kJ c9.bp→Sub jR g→gg (α:=Z×Z) (fun k a=>Q8 w0 E R (vi cr) (ak aK 0) (vi bT) ff cC dq (fun b0 b1=>k (b0,b1)) a.1 a.2) n ((.bool lM),(vi gC)) h:=by
 intro n
 induction n with
 | zero=>
  intro v6 v10 lM gC da dL g h M S bj bz ep eS pz pA pB la;unfold JP at M;cases M
 | succ n ih=>
  intro v6 v10 lM gC da dL g h M S bj bz ep eS pz pA pB la;exact aFy M S bj bz ep eS pz pA pB la mr (Sub.refl g) (fun M2 sub S2 xE agG=>ih M2 S2 (aa.mono bj ah.mono sub) (aa.mono bz al.mono sub) xE agG (aa.mono pz aZ.mono sub) (aa.mono pA bD.mono sub) (aa.mono pB ae.mono sub) (Sub.trans la sub)) H
theorem aFA {w0 c g h E R r N v1 v49 bT v2 v6 v10 av aA az aR aK bf bg cC da dq dL ff eG jR}(M:JQ N v1 v49 bT v2 v6 v10 eG=some r)(S:Sep c g h [.bx av (ZZB v1 aA az aR),.bx aK (ZZA v2 bf bg),.sl 3 1 cC da,.sl 4 1 dq dL])(aH:aa aZ.rep 4 g aA v1.bE)(aG:aa bD.rep 4 g az v1.bw)(aS:aa ae.rep 7 g aR v1.bp)(bj:aa ah.rep 4 g bf v2.ab)(bz:aa al.rep 3 g bg v2.aI)(ep:aw ((rI .i64) g) da v6)(eS:aw (rB g) dL v10)(la:Sub jR g)(mr:∀{ar:Int}{dH:ZZD}{fe:List (ZZE)}{ey:List Bool}{gW:List (ZZE)}{g2 h2:AH},eG ar dH ey=some r→Sub jR g2→Sep c g2 h2 [.bx av (ZZB v1 aA az aR),.bx aK (ZZA v2 bf bg),.sl 3 1 cC fe,.sl 4 1 dq gW]→aw ((rI .i64) g2) fe dH→aw (rB g2) gW ey→ff (vi ar) h2)(H:ki c R r):Yz w0 E R (ak av 0) (vi v49) (vi bT) (ak aK 0) ff cC dq h:=by
 unfold Yz;unfold JQ at M;refine aQ.2 (S.aP 0 rfl rfl ?_);obtain⟨pU,Gm,M⟩:=bind_some M;refine aa.idx aG Gm (fun aLw aLx vs aLy aFB rp=>?_);cases rp;refine aQ.2 (S.dK (aFB 2 _ rfl) (sk.2 ?_));have S:=S.f3.f3.f3;exact⟨N,aFz mr H _ M S bj bz ep eS aH aG aS la⟩
theorem aFC {w0 c g h E R r N v37 bT v1 v2 v6 v10 D3 av aA az aR aK bf bg cC da dq dL ff eG jR}(M:GW N v37 bT v1 v2 v6 v10 eG=some r)(S:Sep c g h [.bx av (ZZB v1 aA az aR),.bx aK (ZZA v2 bf bg),.sl 3 1 cC da,.sl 4 1 dq dL])(G0:aa ah.rep 4 g D3 v37)(aH:aa aZ.rep 4 g aA v1.bE)(aG:aa bD.rep 4 g az v1.bw)(aS:aa ae.rep 7 g aR v1.bp)(bj:aa ah.rep 4 g bf v2.ab)(bz:aa al.rep 3 g bg v2.aI)(ep:aw ((rI .i64) g) da v6)(eS:aw (rB g) dL v10)(la:Sub jR g)(mr:∀{ar:Int}{dH:ZZD}{fe:List (ZZE)}{ey:List Bool}{gW:List (ZZE)}{g2 h2:AH},eG ar dH ey=some r→Sub jR g2→Sep c g2 h2 [.bx av (ZZB v1 aA az aR),.bx aK (ZZA v2 bf bg),.sl 3 1 cC fe,.sl 4 1 dq gW]→aw ((rI .i64) g2) fe dH→aw (rB g2) gW ey→ff (vi ar) h2)(H:ki c R r):YA w0 E R D3 (vi bT) ff (ak av 0) (ak aK 0) cC dq h:=by
 unfold YA;unfold GW at M;obtain⟨pZ,agH,M⟩:=bind_some M;refine aa.idx G0 agH (fun aFD aFE vs aFF agI rp=>?_);cases rp;refine S.iX agI rfl (by decide) (S.alloc (l:=[vi 0,vi 0,vi 0,vi 0]) (ag rfl (ag rfl (ag rfl (ag rfl rfl)))) (fun aDW h S=>?_));refine S.cV (ZZC pZ) (ZZC pZ) rfl rfl (ag rfl (ag rfl (ag rfl (ag rfl rfl)))) (zaa rfl) rfl (fun h S=>?_);refine S.eA (ZZC pZ) 0 rfl rfl rfl (by decide) ?_;obtain⟨ia,GC,M⟩:=bind_some M;refine aqq GC S.sub S.ok (fun _ h  S1  =>?_);have S:=S.dz S1;refine(fk rfl).2 ?_;refine(fk rfl).2 ?_;refine dZ.2 (bR (fun hc=>?_) (fun hc=>?_))
 · have M:=aV hc M;have S:=S.f4.f4.f4.f4.t4;exact agC M S aH aG aS bj bz ep eS la mr H
 · have M:=aX hc M;have S:=S.f4.f4.f4.f4.t4;exact aFA M S aH aG aS bj bz ep eS la mr H
theorem aFG {w0 c g h E R r N bL px WJ PO PS aq3 aq4 ic gV mP}(M:WI N bL px WJ gV=some r)(S:Sep c g h [.sl 4 1 PO PS,.sl 3 1 aq3 aq4])(PU:aw (rB g) PS px)(aFH:aw ((rI .i64) g) aq4 WJ)(pC:Sub mP g)(qJ:∀{ar:Int}{di:List Bool}{fK:List (ZZE)}{bY:ZZD}{eg:List (ZZE)}{g2 h2:AH},gV ar di bY=some r→Sub mP g2→Sep c g2 h2 [.sl 4 1 PO fK,.sl 3 1 aq3 eg]→aw (rB g2) fK di→aw ((rI .i64) g2) eg bY→ic (vi ar) h2)(H:ki c R r):Yn w0 E R (vi bL) ic h:=by
 unfold Yn;unfold WI at M;refine gE.2 ?_;exact qJ M pC S PU aFH
theorem aq5 {w0 c g h E R r N v6 bL dM px cC da PO PS ic gV mP}(M:PB N v6 bL dM px gV=some r)(S:Sep c g h [.sl 3 1 cC da,.sl 4 1 PO PS])(ep:aw ((rI .i64) g) da v6)(PU:aw (rB g) PS px)(pC:Sub mP g)(qJ:∀{ar:Int}{di:List Bool}{fK:List (ZZE)}{bY:ZZD}{eg:List (ZZE)}{g2 h2:AH},gV ar di bY=some r→Sub mP g2→Sep c g2 h2 [.sl 4 1 PO fK,.sl 3 1 cC eg]→aw (rB g2) fK di→aw ((rI .i64) g2) eg bY→ic (vi ar) h2)(H:ki c R r):Yo w0 E R cC (vi bL) ic (.bool dM) h:=by
 unfold Yo;unfold PB at M;refine bR (fun hc=>?_) (fun hc=>?_)
 · have M:=aV hc M;obtain⟨g,sg,S,wi⟩:=S.fz ep (eD .i64);have PU:=aw.mono PU (fun _ _ hh=>lS _ _ _ _ sg hh);have pC:=Sub.trans pC sg;cases M;exact H _ _ cC S.bO wi
 · have M:=aX hc M;have S:=S.f1;exact aFG M S PU ep pC qJ H
theorem aq6 {w0 c g h E R r N v10 bL v6 du dq dL cC da ic gV mP}(M:PC N v10 bL v6 du gV=some r)(S:Sep c g h [.sl 4 1 dq dL,.sl 3 1 cC da])(eS:aw (rB g) dL v10)(ep:aw ((rI .i64) g) da v6)(pC:Sub mP g)(qJ:∀{ar:Int}{di:List Bool}{fK:List (ZZE)}{bY:ZZD}{eg:List (ZZE)}{g2 h2:AH},gV ar di bY=some r→Sub mP g2→Sep c g2 h2 [.sl 4 1 dq fK,.sl 3 1 cC eg]→aw (rB g2) fK di→aw ((rI .i64) g2) eg bY→ic (vi ar) h2)(H:ki c R r):Yp w0 E R dq (vi bL) cC ic (.bool du) h:=by
 unfold Yp;unfold PC at M;cases hc:du
 · have M:=aX hc M;repeat refine ax (by decide) ?_;refine aW.2 ?_;have S:=S.f1;exact aq5 M S ep eS pC qJ H
 · have M:=aV hc M;refine au rfl (au rfl (au rfl ?_));obtain⟨aqG,aFI,M⟩:=bind_some M;refine S.mF 0 rfl eS aFI (fun aLz aLA vs aFJ aFK rp=>?_);cases rp;refine au rfl (S.tU (j:=0) 0 rfl aFJ aFK rfl (au rfl (dZ.2 (aW.2 ?_))));have S:=S.f1;exact aq5 M S ep eS pC qJ H
theorem aFL {w0 c g h E R r N v12 bL v10 v6 qK dq dL cC da ic gV mP}(M:PD N v12 bL v10 v6 gV=some r)(S:Sep c g h [.sl 4 1 dq dL,.sl 3 1 cC da])(sM:aa ah.rep 4 g qK v12)(eS:aw (rB g) dL v10)(ep:aw ((rI .i64) g) da v6)(pC:Sub mP g)(qJ:∀{ar:Int}{di:List Bool}{fK:List (ZZE)}{bY:ZZD}{eg:List (ZZE)}{g2 h2:AH},gV ar di bY=some r→Sub mP g2→Sep c g2 h2 [.sl 4 1 dq fK,.sl 3 1 cC eg]→aw (rB g2) fK di→aw ((rI .i64) g2) eg bY→ic (vi ar) h2)(H:ki c R r):Yq w0 E R qK (vi bL) dq cC ic h:=by
 unfold Yq;unfold PD at M;obtain⟨sK,agJ,M⟩:=bind_some M;refine aa.idx sM agJ (fun aLB aLC vs aLD aFM rp=>?_);cases rp;refine S.iX aFM rfl (by decide) (S.alloc (l:=[vi 0,vi 0,vi 0,vi 0]) (ag rfl (ag rfl (ag rfl (ag rfl rfl)))) (fun aDt h S=>?_));refine S.cV (ZZC sK) (ZZC sK) rfl rfl (ag rfl (ag rfl (ag rfl (ag rfl rfl)))) (zaa rfl) rfl (fun h S=>?_);refine S.eA (ZZC sK) 0 rfl rfl rfl (by decide) ?_;obtain⟨agx,aFN,M⟩:=bind_some M;refine aqq aFN S.sub S.ok (fun _ h  S1  =>?_);have S:=S.dz S1;refine(fk rfl).2 ?_;refine(fk rfl).2 ?_;cases hc:agx.2
 · have M:=aX hc M;refine au rfl (aQ.2 (au rfl (S.aP 0 rfl rfl (au rfl (gr.2 (aW.2 ?_))))));have S:=S.f2.f2.t2;exact aq6 M S eS ep pC qJ H
 · have M:=aV hc M;repeat refine ax (by decide) ?_;refine aW.2 ?_;have S:=S.f2.f2.t2;exact aq6 M S eS ep pC qJ H
theorem aFO {w0 c g h E R r N v6 cC da}  (M:WK N v6=some r)(S:Sep c g h [.sl 3 1 cC da])(ep:aw ((rI .i64) g) da v6)  (H:ki c R r):Ym w0 E R cC h:=by
 unfold Ym;unfold WK at M;obtain⟨g,sg,S,aFP⟩:=S.fz ep (eD .i64);cases M;exact H _ _ cC S.bO aFP
theorem aFQ {w0 c g h E R r N bW v12 v10 v6 bL qK dq dL cC da ic gV mP}(M:agy N bW v12 v10 v6 bL gV=some r)(S:Sep c g h [.sl 4 1 dq dL,.sl 3 1 cC da])(sM:aa ah.rep 4 g qK v12)(eS:aw (rB g) dL v10)(ep:aw ((rI .i64) g) da v6)(pC:Sub mP g)(qJ:∀{ar:Int}{di:List Bool}{fK:List (ZZE)}{bY:ZZD}{eg:List (ZZE)}{g2 h2:AH},gV ar di bY=some r→Sub mP g2→Sep c g2 h2 [.sl 4 1 dq fK,.sl 3 1 cC eg]→aw (rB g2) fK di→aw ((rI .i64) g2) eg bY→ic (vi ar) h2)(H:ki c R r):Q6 w0 E R (vi bW) qK dq cC ic (vi bL) h:=by
 unfold Q6;unfold agy at M;refine fj.2 (bR (fun hc=>?_) (fun hc=>?_))
 · have M:=aV hc M;exact aFL M S sM eS ep pC qJ H
 · have M:=aX hc M;have S:=S.f1.t1;exact aFO M S ep H
theorem aFR {w0 c E R r N bW v12 qK dq cC}   (H:ki c R r):∀(n:Nat){v10:List Bool}{v6:ZZD}{bL:Int}{dL da:List (ZZE)}{g h:AH},PE N bW v12 n v10 v6 bL=some r→Sep c g h [.sl 4 1 dq dL,.sl 3 1 cC da]→aa ah.rep 4 g qK v12→aw (rB g) dL v10→aw ((rI .i64) g) da v6→gg (α:=Z) (fun k a=>Q6 w0 E R (vi bW) qK dq cC k a) n (vi bL) h:=by
 intro n
 induction n with
 | zero=>
  intro v10 v6 bL dL da g h M S sM eS ep ;unfold PE at M;cases M
 | succ n ih=>
  intro v10 v6 bL dL da g h M S sM eS ep ;exact aFQ M S sM eS ep  (Sub.refl g) (fun M2 sub S2 Bc xE=>ih M2 S2 (aa.mono sM ah.mono sub) Bc xE) H
theorem aFS {w0 c g h E R r N v2 v10 v6 aK bf bg dq dL cC da}  (M:PF N v2 v10 v6=some r)(S:Sep c g h [.bx aK (ZZA v2 bf bg),.sl 4 1 dq dL,.sl 3 1 cC da])(bj:aa ah.rep 4 g bf v2.ab)(bz:aa al.rep 3 g bg v2.aI)(eS:aw (rB g) dL v10)(ep:aw ((rI .i64) g) da v6)  (H:ki c R r):Yr w0 E R (ak aK 0) dq cC h:=by
 unfold Yr;unfold PF at M;refine aQ.2 (S.aP 0 rfl rfl (bj.len ?_));have S:=S.f2.f2.t2;exact⟨N,aFR  H _ M S bj eS ep⟩
theorem aFT {w0 c g h E R r N eT v37 v1 v2 v6 v10 bT D3 av aA az aR aK bf bg cC da dq dL ff eG jR}(M:agz N eT v37 v1 v2 v6 v10 bT eG=some r)(S:Sep c g h [.bx av (ZZB v1 aA az aR),.bx aK (ZZA v2 bf bg),.sl 3 1 cC da,.sl 4 1 dq dL])(G0:aa ah.rep 4 g D3 v37)(aH:aa aZ.rep 4 g aA v1.bE)(aG:aa bD.rep 4 g az v1.bw)(aS:aa ae.rep 7 g aR v1.bp)(bj:aa ah.rep 4 g bf v2.ab)(bz:aa al.rep 3 g bg v2.aI)(ep:aw ((rI .i64) g) da v6)(eS:aw (rB g) dL v10)(la:Sub jR g)(mr:∀{ar:Int}{dH:ZZD}{fe:List (ZZE)}{ey:List Bool}{gW:List (ZZE)}{g2 h2:AH},eG ar dH ey=some r→Sub jR g2→Sep c g2 h2 [.bx av (ZZB v1 aA az aR),.bx aK (ZZA v2 bf bg),.sl 3 1 cC fe,.sl 4 1 dq gW]→aw ((rI .i64) g2) fe dH→aw (rB g2) gW ey→ff (vi ar) h2)(H:ki c R r):Q9 w0 E R (vi eT) D3 (ak av 0) (ak aK 0) cC dq ff (vi bT) h:=by
 unfold Q9;unfold agz at M;refine fj.2 (bR (fun hc=>?_) (fun hc=>?_))
 · have M:=aV hc M;exact aFC M S G0 aH aG aS bj bz ep eS la mr H
 · have M:=aX hc M;have S:=S.f2.f3.f3.t3;exact aFS M S bj bz eS ep H
theorem aFU {w0 c E R r N eT v37 v1 v2 D3 av aA az aR aK bf bg cC dq}   (H:ki c R r):∀(n:Nat){v6:ZZD}{v10:List Bool}{bT:Int}{da dL:List (ZZE)}{g h:AH},DT N eT v37 v1 v2 n v6 v10 bT=some r→Sep c g h [.bx av (ZZB v1 aA az aR),.bx aK (ZZA v2 bf bg),.sl 3 1 cC da,.sl 4 1 dq dL]→aa ah.rep 4 g D3 v37→aa aZ.rep 4 g aA v1.bE→aa bD.rep 4 g az v1.bw→aa ae.rep 7 g aR v1.bp→aa ah.rep 4 g bf v2.ab→aa al.rep 3 g bg v2.aI→aw ((rI .i64) g) da v6→aw (rB g) dL v10→gg (α:=Z) (fun k a=>Q9 w0 E R (vi eT) D3 (ak av 0) (ak aK 0) cC dq k a) n (vi bT) h:=by
 intro n
 induction n with
 | zero=>
  intro v6 v10 bT da dL g h M S G0 aH aG aS bj bz ep eS ;unfold DT at M;cases M
 | succ n ih=>
  intro v6 v10 bT da dL g h M S G0 aH aG aS bj bz ep eS ;exact aFT M S G0 aH aG aS bj bz ep eS  (Sub.refl g) (fun M2 sub S2 agG agK=>ih M2 S2 (aa.mono G0 ah.mono sub) (aa.mono aH aZ.mono sub) (aa.mono aG bD.mono sub) (aa.mono aS ae.mono sub) (aa.mono bj ah.mono sub) (aa.mono bz al.mono sub) agG agK) H
theorem aFV {w0 c g h E R r N v2 v1 v6 v10 aK bf bg av aA az aR cC da dq dL}  (M:PG N v2 v1 v6 v10=some r)(S:Sep c g h [.bx aK (ZZA v2 bf bg),.bx av (ZZB v1 aA az aR),.sl 3 1 cC da,.sl 4 1 dq dL])(bj:aa ah.rep 4 g bf v2.ab)(bz:aa al.rep 3 g bg v2.aI)(aH:aa aZ.rep 4 g aA v1.bE)(aG:aa bD.rep 4 g az v1.bw)(aS:aa ae.rep 7 g aR v1.bp)(ep:aw ((rI .i64) g) da v6)(eS:aw (rB g) dL v10)  (H:ki c R r):YB w0 E R (ak aK 0) (ak av 0) cC dq h:=by
 unfold YB;unfold PG at M;refine aQ.2 (S.aP 0 rfl rfl (bj.len ?_));have S:=S.f3.f3.f2.f3;exact⟨N,aFU  H _ M S bj aH aG aS bj bz ep eS⟩
theorem aFW {w0 c g h E R r N mR v6 v2 v1 v10 dv cC da aK bf bg av aA az aR dq dL sX um DZ}(M:agA N mR v6 v2 v1 v10 dv um=some r)(S:Sep c g h [.sl 3 1 cC da,.bx aK (ZZA v2 bf bg),.bx av (ZZB v1 aA az aR),.sl 4 1 dq dL])(ep:aw ((rI .i64) g) da v6)(bj:aa ah.rep 4 g bf v2.ab)(bz:aa al.rep 3 g bg v2.aI)(aH:aa aZ.rep 4 g aA v1.bE)(aG:aa bD.rep 4 g az v1.bw)(aS:aa ae.rep 7 g aR v1.bp)(eS:aw (rB g) dL v10)(PI:Sub DZ g)(PJ:∀{ar:Int}{di:ZZD}{fK:List (ZZE)}{ey:List Bool}{gW:List (ZZE)}{g2 h2:AH},um ar di ey=some r→Sub DZ g2→Sep c g2 h2 [.sl 3 1 cC fK,.bx aK (ZZA v2 bf bg),.bx av (ZZB v1 aA az aR),.sl 4 1 dq gW]→aw ((rI .i64) g2) fK di→aw (rB g2) gW ey→sX (vi ar) h2)(H:ki c R r):Ra w0 E R (vi mR) cC (ak aK 0) (ak av 0) dq sX (vi dv) h:=by
 unfold Ra;unfold agA at M;refine fj.2 (bR (fun hc=>?_) (fun hc=>?_))
 · have M:=aV hc M;exact aFc M S ep bj bz aH aG aS eS PI PJ H
 · have M:=aX hc M;have S:=S.f3.f1.f3.f3;exact aFV M S bj bz aH aG aS ep eS H
theorem aFX {w0 c E R r N mR v2 v1 cC aK bf bg av aA az aR dq}   (H:ki c R r):∀(n:Nat){v6:ZZD}{v10:List Bool}{dv:Int}{da dL:List (ZZE)}{g h:AH},GX N mR v2 v1 n v6 v10 dv=some r→Sep c g h [.sl 3 1 cC da,.bx aK (ZZA v2 bf bg),.bx av (ZZB v1 aA az aR),.sl 4 1 dq dL]→aw ((rI .i64) g) da v6→aa ah.rep 4 g bf v2.ab→aa al.rep 3 g bg v2.aI→aa aZ.rep 4 g aA v1.bE→aa bD.rep 4 g az v1.bw→aa ae.rep 7 g aR v1.bp→aw (rB g) dL v10→gg (α:=Z) (fun k a=>Ra w0 E R (vi mR) cC (ak aK 0) (ak av 0) dq k a) n (vi dv) h:=by
 intro n
 induction n with
 | zero=>
  intro v6 v10 dv da dL g h M S ep bj bz aH aG aS eS ;unfold GX at M;cases M
 | succ n ih=>
  intro v6 v10 dv da dL g h M S ep bj bz aH aG aS eS ;exact aFW M S ep bj bz aH aG aS eS  (Sub.refl g) (fun M2 sub S2 Bc agK=>ih M2 S2 Bc (aa.mono bj ah.mono sub) (aa.mono bz al.mono sub) (aa.mono aH aZ.mono sub) (aa.mono aG bD.mono sub) (aa.mono aS ae.mono sub) agK) H
theorem aFY {w0 g h Q r N x0 x1 cw cx iY kB kC}(M:PH N x0 x1=some r)(sg:Sub g h)(ok:h.Ok)(cg:aa aZ.rep 4 g cw x0.bE)(cz:aa bD.rep 4 g cx x0.bw)(jF:aa ae.rep 7 g iY x0.bp)(lG:aa ah.rep 4 g kB x1.ab)(nb:aa al.rep 3 g kC x1.aI)(H:ki ⟨g,h,[]⟩ (fun v=>Q (.ret v)) r):WF PP w0 YE [(.agg ⟨(ZZB x0 cw cx iY)⟩),(.agg ⟨(ZZA x1 kB kC)⟩)] h Q:=by
 refine ath _ _ ?_;have S:=Sep.start sg ok;unfold ah5;unfold PH at M;refine S.box (ZZB x0 cw cx iY) rfl (ag cg.one (ag cz.one (ag jF.one (ag rfl (ag rfl rfl))))) (fun jN h S=>?_);refine S.box (ZZA x1 kB kC) rfl (ag rfl (ag rfl (ag rfl (ag rfl (ag rfl (ag lG.one (ag nb.one rfl))))))) (fun sE h S=>?_);refine aQ.2 (S.aP 0 rfl rfl (lG.len ?_));obtain⟨aFZ,M⟩:=nE M;refine S.Nw aFZ rfl (ag rfl rfl) (fun v_3 h S=>?_);have A_4:aw ((rI .i64) g) (List.replicate (x1.ab.length:Int).toNat [vi 0]) (List.replicate (x1.ab.length:Int).toNat 0):=aw.I8 (show(rI .i64) g [vi 0] 0 from rfl) _;refine aQ.2 (S.aP 1 rfl rfl (lG.len ?_));obtain⟨aF0,M⟩:=nE M;refine S.Nw aF0 rfl (ag rfl rfl) (fun v_6 h S=>?_);have A_7:aw (rB g) (List.replicate (x1.ab.length:Int).toNat [.bool false]) (List.replicate (x1.ab.length:Int).toNat false):=aw.I8 (show rB g [.bool false] false from rfl) _;refine aQ.2 (S.aP 2 rfl rfl (lG.len ?_));have S:=S.f3.f3.f3;exact⟨N,aFX  H _ M S A_4 lG nb cg cz jF A_7⟩
def WO (x0:bD):Option Bool:=
 some ((decide (x0.aC=x0.aC)&&(decide (x0.ay=x0.ay)&&(decide (x0.fArgs=0)&&(decide (x0.nZ=false)&&true)))) != false)
abbrev aF1 (c:Cx) (R:ZZF) (r:Bool):Prop:=∀(g' h':AH),Sep c g' h' []→R (.bool r) h'
theorem aF2 {w0 g h Q r x0}(M:WO x0=some r)(sg:Sub g h)(ok:h.Ok)  (H:aF1 ⟨g,h,[]⟩ (fun v=>Q (.ret v)) r):WF PP w0 Y9 [(.agg ⟨[.string x0.aC,.string x0.ay,vi x0.fArgs,.bool x0.nZ]⟩)] h Q:=by
 refine atI _ ?_;have S:=Sep.start sg ok;unfold aiw;unfold WO at M;refine S.box [.string x0.aC,.string x0.ay,vi x0.fArgs,.bool x0.nZ] rfl (ag rfl (ag rfl (ag rfl (ag rfl rfl)))) (fun jN h S=>?_);refine S.eA [.string x0.aC,.string x0.ay,vi x0.fArgs,.bool x0.nZ] 0 rfl rfl rfl (by decide) (aQ.2 (S.aP 0 rfl rfl (aQ.2 (S.aP 0 rfl rfl ?_))));refine(CJ (l:=[.string x0.aC,.string x0.ay,vi 0,.bool false]) (rn (m:=[.string x0.aC]) (l2:=[.string x0.aC,(.string (⟨⟨[]⟩⟩:ByteArray)),vi 0,.bool false]) rfl rfl (zaa rfl) rfl (rn (m:=[.string x0.ay]) (l2:=[.string x0.aC,.string x0.ay,vi 0,.bool false]) rfl rfl (zaa rfl) rfl rfl))).2 ?_;refine(aeG (aoQ (aoQ (C9 (aBh aeF))))).2 ?_;cases M;exact H _ _  S.bO
def agL (N:Nat) (y3:Int) (eF:Int→Option Int):Option Int:=
 eF (bN .i64 (y3+1))
def agM (N:Nat) (x0:List ah) (y3:Int) (x1:ah→Option Bool) (eF:Int→Option Int):Option Int:=
(ix x0 y3).bind fun gi=>
(x1 gi).bind fun eR=>
 bif eR then(
 some y3)else(
 agL N y3 eF)
def agN (N:Nat)   :Option Int:=
 some (-1)
def agO (N:Nat) (v1:Int) (x0:List ah) (x1:ah→Option Bool) (y3:Int) (eF:Int→Option Int):Option Int:=
 bif (decide (y3<v1))then(
 agM N x0 y3 x1 eF)else(
 agN N)
def JY (N:Nat) (v1:Int) (x0:List ah) (x1:ah→Option Bool)  :Nat→Int→Option Int | 0,_=>none | n+1,y3=>agO N v1 x0 x1 y3  (fun ar=>JY N v1 x0 x1 n ar)
def PV (N:Nat) (x0:List ah) (x1:ah→Option Bool):Option Int:=
 JY N (x0.length:Int) x0 x1 N 0
abbrev JZ (c:Cx) (R:ZZF) (r:Int):Prop:=∀(g' h':AH),Sep c g' h' []→R (vi r) h'
theorem aF3 {w0 c g h E R r N y3 k2 eF jk}(M:agL N y3 eF=some r)(S:Sep c g h [])  (mM:Sub jk g)(mN:∀{ar:Int}{g2 h2:AH},eF ar=some r→Sub jk g2→Sep c g2 h2 []→k2 (vi ar) h2)(H:JZ c R r):Yi w0 E R (vi y3) k2 h:=by
 unfold Yi;unfold agL at M;refine gE.2 ?_;exact mN M mM S
theorem aF4 {w0 c g h E R r N x0 y3 x1 cA bV k2 eF jk}(M:agM N x0 y3 x1 eF=some r)(S:Sep c g h [])(cZ:aa ah.rep 4 g cA x0)(cn:Bv w0 g bV x1)(mM:Sub jk g)(mN:∀{ar:Int}{g2 h2:AH},eF ar=some r→Sub jk g2→Sep c g2 h2 []→k2 (vi ar) h2)(H:JZ c R r):Yj w0 E R cA (vi y3) bV k2 h:=by
 unfold Yj;unfold agM at M;obtain⟨gi,nU,M⟩:=bind_some M;refine aa.idx cZ nU (fun vo NM vs E_6 Gi rp=>?_);cases rp;refine S.iX Gi rfl (by decide) ?_;obtain⟨eR,mL,M⟩:=bind_some M;refine cn.2 gi _ _ _ _ _ (Sub.refl _) S.sub S.ok  mL (fun _ h  S1  =>?_);have S:=S.dz S1;refine bR (fun hc=>?_) (fun hc=>?_)
 · have M:=aV hc M;cases M;exact H _ _  S.bO
 · have M:=aX hc M;exact aF3 M S mM mN H
theorem aF5 {w0 c g h E R r N}   (M:agN N  =some r)(S:Sep c g h [])   (H:JZ c R r):Yh w0 E R  h:=by
 unfold Yh;unfold agN at M;cases M;exact H _ _  S.bO
theorem aF6 {w0 c g h E R r N v1 x0 x1 y3 cA bV k2 eF jk}(M:agO N v1 x0 x1 y3 eF=some r)(S:Sep c g h [])(cZ:aa ah.rep 4 g cA x0)(cn:Bv w0 g bV x1)(mM:Sub jk g)(mN:∀{ar:Int}{g2 h2:AH},eF ar=some r→Sub jk g2→Sep c g2 h2 []→k2 (vi ar) h2)(H:JZ c R r):Q4 w0 E R (vi v1) cA bV k2 (vi y3) h:=by
 unfold Q4;unfold agO at M;refine fj.2 (bR (fun hc=>?_) (fun hc=>?_))
 · have M:=aV hc M;exact aF4 M S cZ cn mM mN H
 · have M:=aX hc M;exact aF5 M S  H
theorem aF7 {w0 c E R r N v1 x0 x1 cA bV}   (H:JZ c R r):∀(n:Nat){y3:Int}{g h:AH},JY N v1 x0 x1 n y3=some r→Sep c g h []→aa ah.rep 4 g cA x0→Bv w0 g bV x1→gg (α:=Z) (fun k a=>Q4 w0 E R (vi v1) cA bV k a) n (vi y3) h:=by
 intro n
 induction n with
 | zero=>
  intro y3  g h M S cZ cn ;unfold JY at M;cases M
 | succ n ih=>
  intro y3  g h M S cZ cn ;exact aF6 M S cZ cn  (Sub.refl g) (fun M2 sub S2  =>ih M2 S2 (aa.mono cZ ah.mono sub) (Bv.mono cn sub)) H
theorem aF8 {w0 g h Q r N x0 x1 cA bV}(M:PV N x0 x1=some r)(sg:Sub g h)(ok:h.Ok)(cZ:aa ah.rep 4 g cA x0)(cn:Bv w0 g bV x1)(H:JZ ⟨g,h,[]⟩ (fun v=>Q (.ret v)) r):WF PP w0 Yk [cA,bV] h Q:=by
 refine atf _ _ ?_;have S:=Sep.start sg ok;unfold ah3;unfold PV at M;refine cZ.len ?_;exact⟨N,aF7  H _ M S cZ cn⟩
def agP (N:Nat) (y3:Int) (eF:Int→Option Int):Option Int:=
 eF (bN .i64 (y3+1))
def agQ (N:Nat) (x0:List aZ) (y3:Int) (x1:aZ→Option Bool) (eF:Int→Option Int):Option Int:=
(ix x0 y3).bind fun gi=>
(x1 gi).bind fun mn=>
 bif mn then(
 some y3)else(
 agP N y3 eF)
def agR (N:Nat)   :Option Int:=
 some (-1)
def agS (N:Nat) (v1:Int) (x0:List aZ) (x1:aZ→Option Bool) (y3:Int) (eF:Int→Option Int):Option Int:=
 bif (decide (y3<v1))then(
 agQ N x0 y3 x1 eF)else(
 agR N)
def J0 (N:Nat) (v1:Int) (x0:List aZ) (x1:aZ→Option Bool)  :Nat→Int→Option Int | 0,_=>none | n+1,y3=>agS N v1 x0 x1 y3  (fun ar=>J0 N v1 x0 x1 n ar)
def PW (N:Nat) (x0:List aZ) (x1:aZ→Option Bool):Option Int:=
 J0 N (x0.length:Int) x0 x1 N 0
abbrev J3 (c:Cx) (R:ZZF) (r:Int):Prop:=∀(g' h':AH),Sep c g' h' []→R (vi r) h'
theorem aF9 {w0 c g h E R r N y3 k2 eF jk}(M:agP N y3 eF=some r)(S:Sep c g h [])  (mM:Sub jk g)(mN:∀{ar:Int}{g2 h2:AH},eF ar=some r→Sub jk g2→Sep c g2 h2 []→k2 (vi ar) h2)(H:J3 c R r):XC w0 E R (vi y3) k2 h:=by
 unfold XC;unfold agP at M;refine gE.2 ?_;exact mN M mM S
theorem aGa {w0 c g h E R r N x0 y3 x1 cA bV k2 eF jk}(M:agQ N x0 y3 x1 eF=some r)(S:Sep c g h [])(cZ:aa aZ.rep 4 g cA x0)(cn:zG w0 g bV x1)(mM:Sub jk g)(mN:∀{ar:Int}{g2 h2:AH},eF ar=some r→Sub jk g2→Sep c g2 h2 []→k2 (vi ar) h2)(H:J3 c R r):XD w0 E R cA (vi y3) bV k2 h:=by
 unfold XD;unfold agQ at M;obtain⟨gi,nU,M⟩:=bind_some M;refine aa.idx cZ nU (fun vo NM vs aCZ NW rp=>?_);obtain⟨w_5,w_7,rfl,Bs,O4⟩:=rp;refine S.iX NW rfl (by decide) ?_;obtain⟨mn,wv,M⟩:=bind_some M;refine cn.2 gi w_5 w_7 _ _ _ _ _ (Sub.refl _) S.sub S.ok Bs O4 wv (fun _ h  S1  =>?_);have S:=S.dz S1;refine bR (fun hc=>?_) (fun hc=>?_)
 · have M:=aV hc M;cases M;exact H _ _  S.bO
 · have M:=aX hc M;exact aF9 M S mM mN H
theorem aGb {w0 c g h E R r N}   (M:agR N  =some r)(S:Sep c g h [])   (H:J3 c R r):XB w0 E R  h:=by
 unfold XB;unfold agR at M;cases M;exact H _ _  S.bO
theorem aGc {w0 c g h E R r N v1 x0 x1 y3 cA bV k2 eF jk}(M:agS N v1 x0 x1 y3 eF=some r)(S:Sep c g h [])(cZ:aa aZ.rep 4 g cA x0)(cn:zG w0 g bV x1)(mM:Sub jk g)(mN:∀{ar:Int}{g2 h2:AH},eF ar=some r→Sub jk g2→Sep c g2 h2 []→k2 (vi ar) h2)(H:J3 c R r):QU w0 E R (vi v1) cA bV k2 (vi y3) h:=by
 unfold QU;unfold agS at M;refine fj.2 (bR (fun hc=>?_) (fun hc=>?_))
 · have M:=aV hc M;exact aGa M S cZ cn mM mN H
 · have M:=aX hc M;exact aGb M S  H
theorem aGd {w0 c E R r N v1 x0 x1 cA bV}   (H:J3 c R r):∀(n:Nat){y3:Int}{g h:AH},J0 N v1 x0 x1 n y3=some r→Sep c g h []→aa aZ.rep 4 g cA x0→zG w0 g bV x1→gg (α:=Z) (fun k a=>QU w0 E R (vi v1) cA bV k a) n (vi y3) h:=by
 intro n
 induction n with
 | zero=>
  intro y3  g h M S cZ cn ;unfold J0 at M;cases M
 | succ n ih=>
  intro y3  g h M S cZ cn ;exact aGc M S cZ cn  (Sub.refl g) (fun M2 sub S2  =>ih M2 S2 (aa.mono cZ aZ.mono sub) (zG.mono cn sub)) H
theorem aGe {w0 g h Q r N x0 x1 cA bV}(M:PW N x0 x1=some r)(sg:Sub g h)(ok:h.Ok)(cZ:aa aZ.rep 4 g cA x0)(cn:zG w0 g bV x1)(H:J3 ⟨g,h,[]⟩ (fun v=>Q (.ret v)) r):WF PP w0 XE [cA,bV] h Q:=by
 refine asV _ _ ?_;have S:=Sep.start sg ok;unfold ahO;unfold PW at M;refine cZ.len ?_;exact⟨N,aGd  H _ M S cZ cn⟩
def WQ (N:Nat) (x0:List aZ) (x1:aZ→Option Bool):Option Bool:=
(PW N x0 x1).bind fun gi=>
 some (decide (0≤gi))
abbrev aGf (c:Cx) (R:ZZF) (r:Bool):Prop:=∀(g' h':AH),Sep c g' h' []→R (.bool r) h'
theorem aGg {w0 g h Q r N x0 x1 cA bV}(M:WQ N x0 x1=some r)(sg:Sub g h)(ok:h.Ok)(cZ:aa aZ.rep 4 g cA x0)(cn:zG w0 g bV x1)(H:aGf ⟨g,h,[]⟩ (fun v=>Q (.ret v)) r):WF PP w0 XF [cA,bV] h Q:=by
 refine asX _ _ ?_;have S:=Sep.start sg ok;unfold ahP;unfold WQ at M;obtain⟨gi,nU,M⟩:=bind_some M;refine aGe nU S.sub S.ok cZ cn (fun _ h  S1  =>?_);have S:=S.dz S1;refine sk.2 ?_;cases M;exact H _ _  S.bO
def PY (x0:Int):Option Bool:=
(kb x0 1 3).bind fun gi=>
 some (!gi)
abbrev aGh (c:Cx) (R:ZZF) (r:Bool):Prop:=∀(g' h':AH),Sep c g' h' []→R (.bool r) h'
theorem aGi {w0 g h Q r x0}(M:PY x0=some r)(sg:Sub g h)(ok:h.Ok)  (H:aGh ⟨g,h,[]⟩ (fun v=>Q (.ret v)) r):WF PP w0 QX [vi x0] h Q:=by
 refine as3 _ ?_;have S:=Sep.start sg ok;unfold ahS;unfold PY at M;obtain⟨gi,nU,M⟩:=bind_some M;refine mJ nU S.sub S.ok (fun _ h  S1  =>?_);have S:=S.dz S1;refine dZ.2 ?_;cases M;exact H _ _  S.bO
def PZ (x0:aZ) (x1:aZ):Option Bool:=
 some (decide (x0.ay=x1.ay))
abbrev aGj (c:Cx) (R:ZZF) (r:Bool):Prop:=∀(g' h':AH),Sep c g' h' []→R (.bool r) h'
theorem aGk {w0 g h Q r x0 x1 cw cx oy kB kC}(M:PZ x0 x1=some r)(sg:Sub g h)(ok:h.Ok)(cg:aa (rI .i64) 1 g cw x0.kV)(cz:aa (rI .i64) 1 g cx x0.gh)(lG:aa (rI .i64) 1 g kB x1.kV)(nb:aa (rI .i64) 1 g kC x1.gh)(qD:g.bH oy 0 [.string x1.ay,kB,kC,vi x1.kW])(H:aGj ⟨g,h,[]⟩ (fun v=>Q (.ret v)) r):WF PP w0 QT [(.agg ⟨[.string x0.ay,cw,cx,vi x0.kW]⟩),ak oy 0] h Q:=by
 refine asT _ _ ?_;have S:=Sep.start sg ok;unfold ahN;unfold PZ at M;refine S.box [.string x0.ay,cw,cx,vi x0.kW] rfl (ag rfl (ag cg.one (ag cz.one (ag rfl rfl)))) (fun jN h S=>?_);refine aQ.2 (S.aP 0 rfl rfl (aQ.2 (S.dK (qD 0 _ rfl) (axY.2 ?_))));cases M;exact H _ _  S.bO
def WS (N:Nat) (bL:Int) (px:aO) (gV:Int→Option Int):Option Int:=
 gV (bN .i64 (bL+1))
def WT (N:Nat) (v12:ZZD) (bL:Int) (v1:aO) (v6:aZ) (gV:Int→Option Int):Option Int:=
(ix v12 bL).bind fun WH=>
(ix v1.bw bL).bind fun P0=>
(Pn v1 v6 P0 WH).bind fun zz=>
 bif (!zz)then(
 some 2)else(
 WS N bL v1 gV)
def agT (N:Nat)   :Option Int:=
 some 0
def D4 (N:Nat) (bW:Int) (v12:ZZD) (v1:aO) (v6:aZ) (bL:Int) (gV:Int→Option Int):Option Int:=
 bif (decide (bL<bW))then(
 WT N v12 bL v1 v6 gV)else(
 agT N)
def P6 (N:Nat) (bW:Int) (v12:ZZD) (v1:aO) (v6:aZ)  :Nat→Int→Option Int | 0,_=>none | n+1,bL=>D4 N bW v12 v1 v6 bL  (fun ar=>P6 N bW v12 v1 v6 n ar)
def P7 (N:Nat) (v6:aZ) (v1:aO)  :Option Int:=
 P6 N (v6.gh.length:Int) v6.gh v1 v6 N 0
def D5 (N:Nat) (v6:aZ) (v1:aO) (v59:Bool)  :Option Int:=
 bif v59 then(
 some 2)else(
 P7 N v6 v1)
def J4 (N:Nat) (v6:aZ) (v1:aO) (dM:Bool)  :Option Int:=
 bif dM then(
 D5 N v6 v1 true)else(
 bif (!decide (v6.kW=(-1)))then(
(kb v6.kW 0 (bN .i64 ((v1.bp.length:Int)-1))).bind fun agU=>
 bif (!agU)then(
 D5 N v6 v1 true)else(
(ix v1.bp v6.kW).bind fun FV=>
 D5 N v6 v1 (!decide (FV.fArgs=0))))else(
 D5 N v6 v1 false))
def WU (N:Nat) (v6:aZ) (v1:aO)  :Option Int:=
(Gj N v6.kV (fun a0=>PY a0)).bind fun IP=>
 bif IP then(
 J4 N v6 v1 true)else(
 J4 N v6 v1 (!decide ((v6.gh.length:Int)=(v1.bw.length:Int))))
def P8 (N:Nat) (x0:aO) (x1:Int):Option Int:=
(ix x0.bE x1).bind fun cv=>
(BG cv.ay).bind fun kD=>
 bif (!kD)then(
 some 4)else(
(vm x0.bE 0 x1).bind fun rv=>
(WQ N rv (fun a0=>PZ a0 cv)).bind fun sB=>
 bif sB then(
 some 6)else(
 bif (decide (60<(cv.kV.length:Int)))then(
 some 3)else(
 WU N cv x0)))
abbrev zJ (c:Cx) (R:ZZF) (r:Int):Prop:=∀(g' h':AH),Sep c g' h' []→R (vi r) h'
theorem aGl {w0 c g h E R r N bL px aq7 agV agW agX ic gV mP}(M:WS N bL px gV=some r)(S:Sep c g h [.bx aq7 (ZZB px agV agW agX)])(aLE:aa aZ.rep 4 g agV px.bE)(aLF:aa bD.rep 4 g agW px.bw)(aLG:aa ae.rep 7 g agX px.bp)(pC:Sub mP g)(qJ:∀{ar:Int}{g2 h2:AH},gV ar=some r→Sub mP g2→Sep c g2 h2 [.bx aq7 (ZZB px agV agW agX)]→ic (vi ar) h2)(H:zJ c R r):XO w0 E R (vi bL) ic h:=by
 unfold XO;unfold WS at M;refine gE.2 ?_;exact qJ M pC S
theorem aGm {w0 c g h E R r N v12 bL v1 v6 qK av aA az aR oH oI oJ ic gV mP}(M:WT N v12 bL v1 v6 gV=some r)(S:Sep c g h [.bx av (ZZB v1 aA az aR)])(sM:aa (rI .i64) 1 g qK v12)(aH:aa aZ.rep 4 g aA v1.bE)(aG:aa bD.rep 4 g az v1.bw)(aS:aa ae.rep 7 g aR v1.bp)(oK:aa (rI .i64) 1 g oI v6.kV)(nu:aa (rI .i64) 1 g oJ v6.gh)(lW:g.bH oH 0 [.string v6.ay,oI,oJ,vi v6.kW])(pC:Sub mP g)(qJ:∀{ar:Int}{g2 h2:AH},gV ar=some r→Sub mP g2→Sep c g2 h2 [.bx av (ZZB v1 aA az aR)]→ic (vi ar) h2)(H:zJ c R r):XP w0 E R qK (vi bL) (ak av 0) (ak oH 0) ic h:=by
 unfold XP;unfold WT at M;obtain⟨WH,agF,M⟩:=bind_some M;refine aa.idx sM agF (fun aFn aFo vs aLH aGn rp=>?_);cases rp;refine S.dK (aGn 0 _ rfl) (S.eA (ZZB v1 aA az aR) 0 rfl rfl rfl (by decide) (S.iX lW rfl (by decide) (aQ.2 (S.aP 0 rfl rfl ?_))));obtain⟨P0,agY,M⟩:=bind_some M;refine aa.idx aG agY (fun aGo aGp vs aq1 aGq rp=>?_);cases rp;refine S.iX aGq rfl (by decide) ?_;obtain⟨zz,afN,M⟩:=bind_some M;refine aEZ afN S.sub S.ok aH aG aS oK nu (fun _ h  S1  =>?_);have S:=S.dz S1;refine dZ.2 (bR (fun hc=>?_) (fun hc=>?_))
 · have M:=aV hc M;cases M;exact H _ _  S.bO
 · have M:=aX hc M;exact aGl M S aH aG aS pC qJ H
theorem aGr {w0 c g h E R r N}   (M:agT N  =some r)(S:Sep c g h [])   (H:zJ c R r):XN w0 E R  h:=by
 unfold XN;unfold agT at M;cases M;exact H _ _  S.bO
theorem aGs {w0 c g h E R r N bW v12 v1 v6 bL qK av aA az aR oH oI oJ ic gV mP}(M:D4 N bW v12 v1 v6 bL gV=some r)(S:Sep c g h [.bx av (ZZB v1 aA az aR)])(sM:aa (rI .i64) 1 g qK v12)(aH:aa aZ.rep 4 g aA v1.bE)(aG:aa bD.rep 4 g az v1.bw)(aS:aa ae.rep 7 g aR v1.bp)(oK:aa (rI .i64) 1 g oI v6.kV)(nu:aa (rI .i64) 1 g oJ v6.gh)(lW:g.bH oH 0 [.string v6.ay,oI,oJ,vi v6.kW])(pC:Sub mP g)(qJ:∀{ar:Int}{g2 h2:AH},gV ar=some r→Sub mP g2→Sep c g2 h2 [.bx av (ZZB v1 aA az aR)]→ic (vi ar) h2)(H:zJ c R r):QY w0 E R (vi bW) qK (ak av 0) (ak oH 0) ic (vi bL) h:=by
 unfold QY;unfold D4 at M;refine fj.2 (bR (fun hc=>?_) (fun hc=>?_))
 · have M:=aV hc M;exact aGm M S sM aH aG aS oK nu lW pC qJ H
 · have M:=aX hc M;have S:=S.t0;exact aGr M S  H
theorem aGt {w0 c E R r N bW v12 v1 v6 qK av aA az aR oH oI oJ}   (H:zJ c R r):∀(n:Nat){bL:Int}{g h:AH},P6 N bW v12 v1 v6 n bL=some r→Sep c g h [.bx av (ZZB v1 aA az aR)]→aa (rI .i64) 1 g qK v12→aa aZ.rep 4 g aA v1.bE→aa bD.rep 4 g az v1.bw→aa ae.rep 7 g aR v1.bp→aa (rI .i64) 1 g oI v6.kV→aa (rI .i64) 1 g oJ v6.gh→g.bH oH 0 [.string v6.ay,oI,oJ,vi v6.kW]→gg (α:=Z) (fun k a=>QY w0 E R (vi bW) qK (ak av 0) (ak oH 0) k a) n (vi bL) h:=by
 intro n
 induction n with
 | zero=>
  intro bL  g h M S sM aH aG aS oK nu lW ;unfold P6 at M;cases M
 | succ n ih=>
  intro bL  g h M S sM aH aG aS oK nu lW ;exact aGs M S sM aH aG aS oK nu lW  (Sub.refl g) (fun M2 sub S2  =>ih M2 S2 (aa.mono sM (eD .i64) sub) (aa.mono aH aZ.mono sub) (aa.mono aG bD.mono sub) (aa.mono aS ae.mono sub) (aa.mono oK (eD .i64) sub) (aa.mono nu (eD .i64) sub) (Sub.bH sub lW)) H
theorem aGu {w0 c g h E R r N v6 v1 oH oI oJ av aA az aR}  (M:P7 N v6 v1=some r)(S:Sep c g h [.bx av (ZZB v1 aA az aR)])(oK:aa (rI .i64) 1 g oI v6.kV)(nu:aa (rI .i64) 1 g oJ v6.gh)(lW:g.bH oH 0 [.string v6.ay,oI,oJ,vi v6.kW])(aH:aa aZ.rep 4 g aA v1.bE)(aG:aa bD.rep 4 g az v1.bw)(aS:aa ae.rep 7 g aR v1.bp)  (H:zJ c R r):XQ w0 E R (ak oH 0) (ak av 0) h:=by
 unfold XQ;unfold P7 at M;refine aQ.2 (S.dK (lW 2 _ rfl) (nu.len ?_));exact⟨N,aGt  H _ M S nu aH aG aS oK nu lW⟩
theorem WV {w0 c g h E R r N v6 v1 v59 oH oI oJ av aA az aR}  (M:D5 N v6 v1 v59=some r)(S:Sep c g h [.bx av (ZZB v1 aA az aR)])(oK:aa (rI .i64) 1 g oI v6.kV)(nu:aa (rI .i64) 1 g oJ v6.gh)(lW:g.bH oH 0 [.string v6.ay,oI,oJ,vi v6.kW])(aH:aa aZ.rep 4 g aA v1.bE)(aG:aa bD.rep 4 g az v1.bw)(aS:aa ae.rep 7 g aR v1.bp)  (H:zJ c R r):XR w0 E R (ak oH 0) (ak av 0) (.bool v59) h:=by
 unfold XR;unfold D5 at M;refine bR (fun hc=>?_) (fun hc=>?_)
 · have M:=aV hc M;cases M;exact H _ _  S.bO
 · have M:=aX hc M;exact aGu M S oK nu lW aH aG aS H
theorem aq8 {w0 c g h E R r N v6 v1 dM oH oI oJ av aA az aR}  (M:J4 N v6 v1 dM=some r)(S:Sep c g h [.bx av (ZZB v1 aA az aR)])(oK:aa (rI .i64) 1 g oI v6.kV)(nu:aa (rI .i64) 1 g oJ v6.gh)(lW:g.bH oH 0 [.string v6.ay,oI,oJ,vi v6.kW])(aH:aa aZ.rep 4 g aA v1.bE)(aG:aa bD.rep 4 g az v1.bw)(aS:aa ae.rep 7 g aR v1.bp)  (H:zJ c R r):XS w0 E R (ak oH 0) (ak av 0) (.bool dM) h:=by
 unfold XS;unfold J4 at M;cases hc:dM
 · have M:=aX hc M;refine au rfl ?_;refine aQ.2 ?_;refine au rfl ?_;refine S.dK (lW 3 _ rfl) ?_;refine au rfl ?_;refine gb.2 ?_;refine au rfl ?_;cases hc:(!decide (v6.kW=(-1)))
   · have M:=aX hc M;refine ax (by decide) ?_;refine ax (by decide) ?_;refine ax (by decide) ?_;refine ax (by decide) ?_;refine ax (by decide) ?_;refine ax (by decide) ?_;refine ax (by decide) ?_;refine ax (by decide) ?_;refine ax (by decide) ?_;refine dQ ?_;refine dQ ?_;refine dQ ?_;refine dQ ?_;refine dQ ?_;refine dQ ?_;refine dQ ?_;refine dQ ?_;refine ax (by decide) ?_;refine au rfl ?_;refine aW.2 ?_;refine aW.2 ?_;exact WV M S oK nu lW aH aG aS H
   · have M:=aV hc M;refine au rfl ?_;refine aQ.2 ?_;refine au rfl ?_;refine S.dK (lW 3 _ rfl) ?_;refine au rfl ?_;refine aQ.2 ?_;refine au rfl ?_;refine S.aP 0 rfl rfl ?_;refine au rfl ?_;refine aS.len ?_;refine au rfl ?_;refine lB.2 ?_;refine au rfl ?_;obtain⟨agU,aGv,M⟩:=bind_some M;refine mJ aGv S.sub S.ok (fun _ h  S1  =>?_);have S:=S.dz S1;refine au rfl ?_;refine dZ.2 ?_;refine au rfl ?_;cases hc:(!agU)
     · have M:=aX hc M;refine au rfl ?_;refine aQ.2 ?_;refine au rfl ?_;refine S.aP 0 rfl rfl ?_;refine au rfl ?_;refine aQ.2 ?_;refine au rfl ?_;refine S.dK (lW 3 _ rfl) ?_;refine au rfl ?_;obtain⟨FV,Nn,M⟩:=bind_some M;refine aa.idx aS Nn (fun azW azX vs aLI aGw rp=>?_);obtain⟨ap2,aqo,rfl,DF,I6⟩:=rp;refine au rfl ?_;refine aQ.2 ?_;refine au rfl ?_;refine S.dK (aGw 2 _ rfl) ?_;refine au rfl ?_;refine gb.2 ?_;refine au rfl ?_;refine aW.2 ?_;refine au rfl ?_;refine aW.2 ?_;refine aW.2 ?_;exact WV M S oK nu lW aH aG aS H
     · have M:=aV hc M;refine ax (by decide) ?_;refine ax (by decide) ?_;refine ax (by decide) ?_;refine ax (by decide) ?_;refine ax (by decide) ?_;refine ax (by decide) ?_;refine ax (by decide) ?_;refine ax (by decide) ?_;refine au rfl ?_;refine aW.2 ?_;refine au rfl ?_;refine aW.2 ?_;refine aW.2 ?_;exact WV M S oK nu lW aH aG aS H
 · have M:=aV hc M;refine ax (by decide) ?_;refine ax (by decide) ?_;refine ax (by decide) ?_;refine ax (by decide) ?_;refine dQ ?_;refine dQ ?_;refine dQ ?_;refine dQ ?_;refine dQ ?_;refine dQ ?_;refine dQ ?_;refine dQ ?_;refine dQ ?_;refine dQ ?_;refine dQ ?_;refine dQ ?_;refine dQ ?_;refine dQ ?_;refine dQ ?_;refine dQ ?_;refine dQ ?_;refine dQ ?_;refine ax (by decide) ?_;refine aW.2 ?_;exact WV M S oK nu lW aH aG aS H
theorem aGx {w0 c g h E R r N v6 v1 oH oI oJ av aA az aR}  (M:WU N v6 v1=some r)(S:Sep c g h [.bx av (ZZB v1 aA az aR)])(oK:aa (rI .i64) 1 g oI v6.kV)(nu:aa (rI .i64) 1 g oJ v6.gh)(lW:g.bH oH 0 [.string v6.ay,oI,oJ,vi v6.kW])(aH:aa aZ.rep 4 g aA v1.bE)(aG:aa bD.rep 4 g az v1.bw)(aS:aa ae.rep 7 g aR v1.bp)  (H:zJ c R r):XT w0 E R (ak oH 0) (ak av 0) h:=by
 unfold XT;unfold WU at M;refine aQ.2 (S.dK (lW 1 _ rfl) ?_);have aGy:xv w0 g (fc QX) (fun a0=>PY a0):=⟨rfl,fun a0 r E K g2 h2 s1 s2 s3  m1 k1=>aGi m1 s2 s3 k1⟩;obtain⟨IP,ad7,M⟩:=bind_some M;refine aoT ad7 S.sub S.ok oK aGy (fun _ h  S1  =>?_);have S:=S.dz S1;cases hc:IP
 · have M:=aX hc M;refine au rfl (aQ.2 (au rfl (S.dK (lW 2 _ rfl) (au rfl (nu.len (au rfl (aQ.2 (au rfl (S.aP 0 rfl rfl (au rfl (aG.len (au rfl (gb.2 (aW.2 ?_))))))))))))));exact aq8 M S oK nu lW aH aG aS H
 · have M:=aV hc M;repeat refine ax (by decide) ?_;refine aW.2 ?_;exact aq8 M S oK nu lW aH aG aS H
theorem aGz {w0 g h Q r N x0 x1 cw cx iY}(M:P8 N x0 x1=some r)(sg:Sub g h)(ok:h.Ok)(cg:aa aZ.rep 4 g cw x0.bE)(cz:aa bD.rep 4 g cx x0.bw)(jF:aa ae.rep 7 g iY x0.bp)(H:zJ ⟨g,h,[]⟩ (fun v=>Q (.ret v)) r):WF PP w0 XU [(.agg ⟨(ZZB x0 cw cx iY)⟩),vi x1] h Q:=by
 refine as7 _ _ ?_;have S:=Sep.start sg ok;unfold ahU;unfold P8 at M;refine S.box (ZZB x0 cw cx iY) rfl (ag cg.one (ag cz.one (ag jF.one (ag rfl (ag rfl rfl))))) (fun jN h S=>?_);refine aQ.2 (S.aP 0 rfl rfl ?_);obtain⟨cv,nS,M⟩:=bind_some M;refine aa.idx cg nS (fun MV o_5 vs azD MW rp=>?_);obtain⟨UY,UZ,rfl,zh,CW⟩:=rp;refine S.iX MW rfl (by decide) (S.alloc (l:=[(.string (⟨⟨[]⟩⟩:ByteArray)),bJ,bJ,vi 0]) (ag rfl (ag rfl (ag rfl (ag rfl rfl)))) (fun Nu h S=>?_));refine S.cV [.string cv.ay,UY,UZ,vi cv.kW] [.string cv.ay,UY,UZ,vi cv.kW] rfl rfl (ag rfl (ag zh.one (ag CW.one (ag rfl rfl)))) (zaa rfl) rfl (fun h S=>?_);refine aQ.2 (S.aP 0 rfl rfl ?_);obtain⟨kD,vt,M⟩:=bind_some M;refine P9 cv.ay S.sub S.ok vt (fun _ h  S1  =>?_);have S:=S.dz S1;refine dZ.2 (bR (fun hc=>?_) (fun hc=>?_))
 · have M:=aV hc M;cases M;exact H _ _  S.bO
 · have M:=aX hc M;refine aQ.2 (S.aP 1 rfl rfl ?_);obtain⟨rv,Bm,M⟩:=bind_some M;refine aa.aeH cg S Bm (fun aC8 GO=>?_);refine(Ii (by simp)).2 ?_;obtain⟨g,sg,S,Gt⟩:=S.vk;have cg:=aa.mono cg aZ.mono sg;have cz:=aa.mono cz bD.mono sg;have jF:=aa.mono jF ae.mono sg;have MW:=sg.bH MW;have zh:=aa.mono zh (eD .i64) sg;have CW:=aa.mono CW (eD .i64) sg;have GO:=aa.mono GO aZ.mono sg;have aGA:zG w0 g (.func (.func QT) ⟨[]⟩ ⟨[ak Nu 0]⟩) (fun a0=>PZ a0 cv):=⟨rfl,fun a0 xK Pa r E K g2 h2 s1 s2 s3 q0 q1 m1 k1=>aGk m1 s2 s3 q0 q1 (aa.mono zh (eD .i64) s1) (aa.mono CW (eD .i64) s1) (Sub.bH s1 Gt) k1⟩;obtain⟨sB,Bd,M⟩:=bind_some M;refine aGg Bd S.sub S.ok GO aGA (fun _ h  S1  =>?_);have S:=S.dz S1;refine bR (fun hc=>?_) (fun hc=>?_)
   · have M:=aV hc M;cases M;exact H _ _  S.bO
   · have M:=aX hc M;refine aQ.2 (S.dK (Gt 1 _ rfl) (zh.len (kT.2 (bR (fun hc=>?_) (fun hc=>?_)))))
     · have M:=aV hc M;cases M;exact H _ _  S.bO
     · have M:=aX hc M;exact aGx M S zh CW Gt cg cz jF H
def Qa (N:Nat) (x0:ah) (x1:aO) (x2:ae):Option Bool:=
(rA N x1 x2 x0).bind fun cv=>
 some (!cv)
abbrev aGB (c:Cx) (R:ZZF) (r:Bool):Prop:=∀(g' h':AH),Sep c g' h' []→R (.bool r) h'
theorem aGC {w0 g h Q r N x0 x1 x2 oy kB kC aq9 ara arb arc}(M:Qa N x0 x1 x2=some r)(sg:Sub g h)(ok:h.Ok)(lG:aa aZ.rep 4 g kB x1.bE)(nb:aa bD.rep 4 g kC x1.bw)(aGD:aa ae.rep 7 g aq9 x1.bp)(qD:g.bH oy 0 (ZZB x1 kB kC aq9))(aGE:aa ah.rep 4 g arb x2.ab)(aGF:aa al.rep 3 g arc x2.aI)(aGG:g.bH ara 0 (ZZA x2 arb arc))(H:aGB ⟨g,h,[]⟩ (fun v=>Q (.ret v)) r):WF PP w0 Q3 [(.agg ⟨(ZZC x0)⟩),ak oy 0,ak ara 0] h Q:=by
 refine ate _ _ _ ?_;have S:=Sep.start sg ok;unfold ah2;unfold Qa at M;refine S.box (ZZC x0) rfl (ag rfl (ag rfl (ag rfl (ag rfl rfl)))) (fun jN h S=>?_);refine S.iX qD rfl (by decide) (S.iX aGG rfl (by decide) (S.eA (ZZC x0) 0 rfl rfl rfl (by decide) ?_));obtain⟨cv,nS,M⟩:=bind_some M;refine aE9 nS S.sub S.ok lG nb aGD aGE aGF (fun _ h  S1  =>?_);have S:=S.dz S1;refine dZ.2 ?_;cases M;exact H _ _  S.bO
def Qb (N:Nat) (cI:al) (v3:Int) (v4:Int)  :Option (Int×Int):=
 some (2,cI.dk)
def WW (N:Nat) (eP:Int) (WX:Int) (WY:Int) (lK:ZZD) (jS:Int→Int→Int→Option (Int×Int)):Option (Int×Int):=
 jS (bN .i64 (eP+1)) WX WY
def Qc (N:Nat) (cI:al) (v11:Int) (v3:Int) (v4:Int) (eP:Int) (v107:Bool) (lK:ZZD) (jS:Int→Int→Int→Option (Int×Int)):Option (Int×Int):=
 bif v107 then(
(kb cI.dk 0 v11).bind fun ard=>
 bif (!ard)then(
 Qb N (al.mk 0 cI.dO cI.bG) v3 v4)else(
 Qb N cI v3 v4))else(
 WW N eP v3 v4 lK jS)
def Qd (N:Nat) (cI:al) (v11:Int) (v3:Int) (v4:Int) (eP:Int) (kN:Bool) (lK:ZZD) (jS:Int→Int→Int→Option (Int×Int)):Option (Int×Int):=
 bif kN then(
 Qc N cI v11 v3 v4 eP true lK jS)else(
(kb cI.bG 0 v11).bind fun arf=>
 Qc N cI v11 v3 v4 eP (!arf) lK jS)
def Qe (N:Nat) (cI:al) (v2:ae) (v11:Int) (v3:Int) (v4:Int) (eP:Int) (jb:Bool) (lK:ZZD) (jS:Int→Int→Int→Option (Int×Int)):Option (Int×Int):=
 bif jb then(
 Qd N cI v11 v3 v4 eP true lK jS)else(
 Qd N cI v11 v3 v4 eP (decide ((v2.ab.length:Int)<cI.dO)) lK jS)
def WZ (N:Nat) (eB:List al) (eP:Int) (v2:ae) (v11:Int) (v3:Int) (v4:Int) (lK:ZZD) (jS:Int→Int→Int→Option (Int×Int)):Option (Int×Int):=
(ix eB eP).bind fun jY=>
 bif (decide (jY.dk<0))then(
 Qe N jY v2 v11 v3 v4 eP true lK jS)else(
 Qe N jY v2 v11 v3 v4 eP (decide (jY.dO≤jY.dk)) lK jS)
def G2 {ρ:Type}(N:Nat) (aq:ZZD) (dP:Int) (v3:Int) (v4:Int) (ny:Int) (uH:Int) (gH:Fl→Int→Int→Option ρ):Option ρ:=
 bif (!decide (uH=0))then(
(ix aq ny).bind fun GJ=>
 bif (!decide (GJ=ny))then(
 gH .ret 2 dP)else(
 gH .go v3 v4))else(
 gH .go v3 v4)
def W0 (N:Nat) (iI:Int) (agZ:ZZD) (W1:Int) (W2:Int) (ur:Int→Int→Int→Option (Int×Int)):Option (Int×Int):=
 ur (bN .i64 (iI+1)) W1 W2
def W3 (N:Nat) (iI:Int) (v2:ae) (aq:ZZD) (v3:Int) (v4:Int) (ur:Int→Int→Int→Option (Int×Int)):Option (Int×Int):=
(Bp N v2 iI).bind fun GL=>
(rq (fun(s:Int×Int) (x:Int×Int)=>G2 N aq iI s.1 s.2 x.1 x.2 (fun f m0 m1=>some ((m0,m1),f))) GL (v3,v4)).bind fun G3=>
 Ge G3.2 (
 W0 N iI aq G3.1.1 G3.1.2 ur) (
 some (G3.1.1,G3.1.2)) (fun _=>none)
def ag0 (N:Nat) (v3:Int) (v4:Int)  :Option (Int×Int):=
 some (0,0)
def Qf (N:Nat) (v2:ae) (v3:Int) (v4:Int)  :Option (Int×Int):=
(Ds N v2).bind fun zr=>
 bif (!zr.2)then(
 some (12,0))else(
 ag0 N v3 v4)
def D6 (N:Nat) (bh:Int) (v2:ae) (aq:ZZD) (v3:Int) (v4:Int) (iI:Int) (ur:Int→Int→Int→Option (Int×Int)):Option (Int×Int):=
 bif (decide (iI<bh))then(
 W3 N iI v2 aq v3 v4 ur)else(
 Qf N v2 v3 v4)
def Qg (N:Nat) (bh:Int) (v2:ae) (aq:ZZD)  :Nat→Int→Int→Int→Option (Int×Int) | 0,_,_,_=>none | n+1,v3,v4,iI=>D6 N bh v2 aq v3 v4 iI  (fun ar bY dH=>Qg N bh v2 aq n bY dH ar)
def G4 (N:Nat) (v2:ae) (aq:ZZD) (v3:Int) (v4:Int)  :Option (Int×Int):=
 Qg N (v2.ab.length:Int) v2 aq N v3 v4 0
def D7 (N:Nat) (iy:Int) (eB:List al) (v2:ae) (v11:Int) (v3:Int) (v4:Int) (aq:ZZD) (eP:Int) (jS:Int→Int→Int→Option (Int×Int)):Option (Int×Int):=
 bif (decide (eP<iy))then(
 WZ N eB eP v2 v11 v3 v4 aq jS)else(
 G4 N v2 aq v3 v4)
def Qh (N:Nat) (iy:Int) (eB:List al) (v2:ae) (v11:Int) (aq:ZZD)  :Nat→Int→Int→Int→Option (Int×Int) | 0,_,_,_=>none | n+1,v3,v4,eP=>D7 N iy eB v2 v11 v3 v4 aq eP  (fun ar di bY=>Qh N iy eB v2 v11 aq n di bY ar)
def G5 (N:Nat) (v2:ae) (v11:Int) (v3:Int) (v4:Int) (aq:ZZD)  :Option (Int×Int):=
 Qh N (v2.aI.length:Int) v2.aI v2 v11 aq N v3 v4 0
def Qi (N:Nat) (v1:aO) (v2:ae) (v3:Int) (v4:Int) (v11:Int)  :Option (Int×Int):=
(PH N v1 v2).bind fun pU=>
 bif (decide (0≤pU.2))then(
 some (2,pU.2))else(
 G5 N v2 v11 v3 v4 pU.1)
def J5 (N:Nat) (v2:ae) (v3:Int) (v4:Int) (v1:aO)  :Option (Int×Int):=
(ix v2.ab (bN .i64 ((v2.ab.length:Int)-1))).bind fun pZ=>
(Db pZ.aJ).bind fun oL=>
 bif (!oL.1.jP)then(
 some (2,(bN .i64 ((v2.ab.length:Int)-1))))else(
 Qi N v1 v2 v3 v4 (bN .i64 ((v2.ab.length:Int)-1)))
def J6 (N:Nat) (v2:ae) (v1:aO) (v3:Int) (v4:Int)  :Option (Int×Int):=
(PV N v2.ab (fun a0=>Qa N a0 v1 v2)).bind fun Ba=>
 bif (decide (0≤Ba))then(
 some (1,Ba))else(
 J5 N v2 v3 v4 v1)
def Qj (N:Nat) (v2:ae) (v3:Int) (v4:Int) (v1:aO)  :Option (Int×Int):=
(Pl v2).bind fun fD=>
 bif (!decide (fD=0))then(
 some (fD,0))else(
 J6 N v2 v1 v3 v4)
def J7 (N:Nat) (v3:Int) (v4:Int) (v2:ae) (v1:aO) (yd:Bool)  :Option (Int×Int):=
 bif yd then(
 some (4,0))else(
 Qj N v2 v3 v4 v1)
def IW (N:Nat) (x0:aO) (x1:ae):Option (Int×Int):=
(BG x1.aC).bind fun jw=>
 bif (!jw)then(
 J7 N 0 0 x1 x0 true)else(
 bif (!decide (x1.ay=(⟨⟨[]⟩⟩:ByteArray)))then(
(BG x1.ay).bind fun eR=>
 J7 N 0 0 x1 x0 (!eR))else(
 J7 N 0 0 x1 x0 false))
abbrev nv (c:Cx) (R:ZZF) (r:Int×Int):Prop:=∀(g' h':AH),Sep c g' h' []→R (.tuple ⟨[vi r.1,vi r.2]⟩) h'
theorem arh {w0 c g h E R r N cI v3 v4 xR bI bA d108}  (M:Qb N cI v3 v4=some r)(S:Sep c g h [.bx xR [vi cI.dk,vi cI.dO,vi cI.bG],.bx bI [vi v3],.bx bA [vi v4],.ds d108])   (H:nv c R r):KB w0 E R (ak xR 0) (ak bI 0) (ak bA 0) d108 h:=by
 unfold KB;unfold Qb at M;refine aQ.2 (S.aP 0 rfl rfl ?_);have S:=S.f1;refine S.cV [vi 2] [vi 2] rfl rfl (ag rfl rfl) (zaa rfl) rfl (fun h S=>?_);refine⟨?_,?_⟩
 · refine S.aP 1 rfl rfl ?_;exact Gc
 · refine⟨?_,?_⟩
   · refine aQ.2 ?_;exact aoP
   · have S:=S.f2;refine S.cV [vi cI.dk] [vi cI.dk] rfl rfl (ag rfl rfl) (zaa rfl) rfl (fun h S=>?_);have S:=S.f3;refine S.iH (fun h S=>?_);refine S.aP 1 rfl rfl (S.aP 0 rfl rfl ?_);cases M;exact H _ _  S.bO
theorem aGH {w0 c g h E R r N eP WX WY lK d80 ari arj uu pD kj jS qL}(M:WW N eP WX WY lK jS=some r)(S:Sep c g h [.ds d80,.bx ari [vi WX],.bx arj [vi WY],.bx uu [pD]])(xS:aa (rI .i64) 1 g pD lK)(uv:Sub qL g)(uw:∀{ar:Int}{cd:List Nat}{di bY:Int}{g2 h2:AH},jS ar di bY=some r→Sub qL g2→Sep c g2 h2 [.bx ari [vi di],.bx arj [vi bY],.bx uu [pD],.ds cd]→kj (vi ar) cd h2)(H:nv c R r):RF w0 E R (vi eP) kj d80 h:=by
 unfold RF;unfold WW at M;refine gE.2 ?_;have S:=S.f3.f3.f3;exact uw M uv S
theorem ark {w0 c g h E R r N cI v11 v3 v4 eP v107 lK xR d79 bI bA uu pD kj jS qL}(M:Qc N cI v11 v3 v4 eP v107 lK jS=some r)(S:Sep c g h [.bx xR [vi cI.dk,vi cI.dO,vi cI.bG],.ds d79,.bx bI [vi v3],.bx bA [vi v4],.bx uu [pD]])(xS:aa (rI .i64) 1 g pD lK)(uv:Sub qL g)(uw:∀{ar:Int}{cd:List Nat}{di bY:Int}{g2 h2:AH},jS ar di bY=some r→Sub qL g2→Sep c g2 h2 [.bx bI [vi di],.bx bA [vi bY],.bx uu [pD],.ds cd]→kj (vi ar) cd h2)(H:nv c R r):RG w0 E R (ak xR 0) (vi v11) d79 (ak bI 0) (ak bA 0) (vi eP) kj (.bool v107) h:=by
 unfold RG;unfold Qc at M;refine bR (fun hc=>?_) (fun hc=>?_)
 · have M:=aV hc M;refine aQ.2 (S.aP 0 rfl rfl ?_);obtain⟨ard,aGI,M⟩:=bind_some M;refine mJ aGI S.sub S.ok (fun _ h  S1  =>?_);have S:=S.dz S1;refine dZ.2 (bR (fun hc=>?_) (fun hc=>?_))
   · have M:=aV hc M;refine aQ.2 (S.cV [vi 0] [vi 0,vi cI.dO,vi cI.bG] rfl rfl (ag rfl rfl) (zaa rfl) rfl (fun h S=>?_));have S:=S.f1.f3.f3.f3.t4;exact arh M S  H
   · have M:=aX hc M;have S:=S.f1.f3.f3.f3.t4;exact arh M S  H
 · have M:=aX hc M;have S:=S.f4.f4.f4.f4.t4;exact aGH M S xS uv uw H
theorem arl {w0 c g h E R r N cI v11 v3 v4 eP kN lK xR d79 bI bA uu pD kj jS qL}(M:Qd N cI v11 v3 v4 eP kN lK jS=some r)(S:Sep c g h [.bx xR [vi cI.dk,vi cI.dO,vi cI.bG],.ds d79,.bx bI [vi v3],.bx bA [vi v4],.bx uu [pD]])(xS:aa (rI .i64) 1 g pD lK)(uv:Sub qL g)(uw:∀{ar:Int}{cd:List Nat}{di bY:Int}{g2 h2:AH},jS ar di bY=some r→Sub qL g2→Sep c g2 h2 [.bx bI [vi di],.bx bA [vi bY],.bx uu [pD],.ds cd]→kj (vi ar) cd h2)(H:nv c R r):RH w0 E R (ak xR 0) (vi v11) d79 (ak bI 0) (ak bA 0) (vi eP) kj (.bool kN) h:=by
 unfold RH;unfold Qd at M;cases hc:kN
 · have M:=aX hc M;refine au rfl (aQ.2 (au rfl (S.aP 0 rfl rfl (au rfl (au rfl ?_)))));obtain⟨arf,aGJ,M⟩:=bind_some M;refine mJ aGJ S.sub S.ok (fun _ h  S1  =>?_);have S:=S.dz S1;refine au rfl (dZ.2 (aW.2 ?_));exact ark M S xS uv uw H
 · have M:=aV hc M;repeat refine ax (by decide) ?_;refine aW.2 ?_;exact ark M S xS uv uw H
theorem arn {w0 c g h E R r N cI v2 v11 v3 v4 eP jb lK xR aK bf bg d79 bI bA uu pD kj jS qL}(M:Qe N cI v2 v11 v3 v4 eP jb lK jS=some r)(S:Sep c g h [.bx xR [vi cI.dk,vi cI.dO,vi cI.bG],.ds d79,.bx bI [vi v3],.bx bA [vi v4],.bx uu [pD]])(bj:aa ah.rep 4 g bf v2.ab)(bz:aa al.rep 3 g bg v2.aI)(gA:g.bH aK 0 (ZZA v2 bf bg))(xS:aa (rI .i64) 1 g pD lK)(uv:Sub qL g)(uw:∀{ar:Int}{cd:List Nat}{di bY:Int}{g2 h2:AH},jS ar di bY=some r→Sub qL g2→Sep c g2 h2 [.bx bI [vi di],.bx bA [vi bY],.bx uu [pD],.ds cd]→kj (vi ar) cd h2)(H:nv c R r):RI w0 E R (ak xR 0) (ak aK 0) (vi v11) d79 (ak bI 0) (ak bA 0) (vi eP) kj (.bool jb) h:=by
 unfold RI;unfold Qe at M;cases hc:jb
 · have M:=aX hc M;refine au rfl (aQ.2 (au rfl (S.aP 0 rfl rfl (au rfl (aQ.2 (au rfl (S.dK (gA 5 _ rfl) (au rfl (bj.len (au rfl (kT.2 (aW.2 ?_))))))))))));exact arl M S xS uv uw H
 · have M:=aV hc M;repeat refine ax (by decide) ?_;refine aW.2 ?_;exact arl M S xS uv uw H
theorem aGK {w0 c g h E R r N eB eP v2 v11 v3 v4 lK D8 aK bf bg bI bA d79 uu pD kj jS qL}(M:WZ N eB eP v2 v11 v3 v4 lK jS=some r)(S:Sep c g h [.bx bI [vi v3],.bx bA [vi v4],.ds d79,.bx uu [pD]])(G6:aa al.rep 3 g D8 eB)(bj:aa ah.rep 4 g bf v2.ab)(bz:aa al.rep 3 g bg v2.aI)(gA:g.bH aK 0 (ZZA v2 bf bg))(xS:aa (rI .i64) 1 g pD lK)(uv:Sub qL g)(uw:∀{ar:Int}{cd:List Nat}{di bY:Int}{g2 h2:AH},jS ar di bY=some r→Sub qL g2→Sep c g2 h2 [.bx bI [vi di],.bx bA [vi bY],.bx uu [pD],.ds cd]→kj (vi ar) cd h2)(H:nv c R r):RJ w0 E R D8 (vi eP) (ak aK 0) (vi v11) (ak bI 0) (ak bA 0) kj d79 h:=by
 unfold RJ;unfold WZ at M;obtain⟨jY,Bo,M⟩:=bind_some M;refine aa.idx G6 Bo (fun aCt aCu vs aCv afr rp=>?_);cases rp;refine S.iX afr rfl (by decide) (S.alloc (l:=[vi 0,vi 0,vi 0]) (ag rfl (ag rfl (ag rfl rfl))) (fun aDx h S=>?_));refine S.cV [vi jY.dk,vi jY.dO,vi jY.bG] [vi jY.dk,vi jY.dO,vi jY.bG] rfl rfl (ag rfl (ag rfl (ag rfl rfl))) (zaa rfl) rfl (fun h S=>?_);refine aQ.2 (S.aP 0 rfl rfl (fj.2 ?_));cases hc:(decide (jY.dk<0))
 · have M:=aX hc M;refine au rfl (aQ.2 (au rfl (S.aP 0 rfl rfl (au rfl (aQ.2 (au rfl (S.aP 0 rfl rfl (au rfl (sk.2 (aW.2 ?_))))))))));have S:=S.f4.f3.f3.f4.f4;exact arn M S bj bz gA xS uv uw H
 · have M:=aV hc M;repeat refine ax (by decide) ?_;refine aW.2 ?_;have S:=S.f4.f3.f3.f4.f4;exact arn M S bj bz gA xS uv uw H
theorem aGL {ρ:Type}{w0:World}{c:Cx}{g h:AH}{E R:ZZF}{r:ρ}{N:Nat}{aq:ZZD}{dP v3 v4 ny uH:Int}{cH:Nat}{kK:Z}{ag1 bI bA:Nat}{n_:Nat}{o_:LO}{d_:List Nat}{gH:Fl→Int→Int→Option ρ}{qI:AH}(M:G2 N aq dP v3 v4 ny uH gH=some r)(S:Sep c g h [.lp n_ o_ .ready none,.ds d_,.bx cH [kK],.bx ag1 [vi dP],.bx bI [vi v3],.bx bA [vi v4]])(lX:aa (rI .i64) 1 g kK aq)(oA:Sub qI g)(oB:∀{f:Fl}{j0 pX:Int}{g2 h2:AH},gH f j0 pX=some r→Sub qI g2→Sep c g2 h2 [.lp n_ o_ f.st f.pd,.ds d_,.bx cH [kK],.bx ag1 [vi dP],.bx bI [vi j0],.bx bA [vi pX]]→R (.bool f.on) h2):RB w0 E R (ak cH 0) (ak ag1 0) (ak bI 0) (ak bA 0) o_ n_ (vi ny) (vi uH) h:=by
 unfold RB;unfold G2 at M;refine S.wO (S.rQ (fun h S=>?_));refine gb.2 ?_;cases hc:(!decide (uH=0))
 · have M:=aX hc M;repeat refine ax (by decide) ?_;refine aW.2 (qT (S.lg (fun h S=>?_)));exact oB M oA S
 · have M:=aV hc M;refine au rfl (S.aP 2 rfl rfl (au rfl (au rfl ?_)));obtain⟨GJ,afQ,M⟩:=bind_some M;refine aa.idx lX afQ (fun aLJ aLK vs apr aGM rp=>?_);cases rp;refine au rfl (S.dK (aGM 0 _ rfl) (au rfl (au rfl (gb.2 (aW.2 (bR (fun hc=>?_) (fun hc=>?_)))))))
   · have M:=aV hc M;refine S.aP 3 rfl rfl ?_;have S:=S.f4;refine S.cV [vi 2] [vi 2] rfl rfl (ag rfl rfl) (zaa rfl) rfl (fun h S=>?_);refine⟨?_,?_⟩
     · refine S.aP 4 rfl rfl ?_;exact Gc
     · have S:=S.f5;refine S.cV [vi dP] [vi dP] rfl rfl (ag rfl rfl) (zaa rfl) rfl (fun h S=>?_);have S:=S.f2;refine S.lg (fun h S=>?_);have S:=S.f1.f2.f5.f5.f5.f5;exact oB M oA S
   · have M:=aX hc M;refine S.lg (fun h S=>?_);exact oB M oA S
theorem aGN {w0 c g h E R r N iI agZ W1 W2 d45 aro ag2 arp arq td ur D9}(M:W0 N iI agZ W1 W2 ur=some r)(S:Sep c g h [.ds d45,.bx aro [ag2],.bx arp [vi W1],.bx arq [vi W2]])(aLL:aa (rI .i64) 1 g ag2 agZ)(BH:Sub D9 g)(Qk:∀{ar:Int}{cd:List Nat}{bY dH:Int}{g2 h2:AH},ur ar bY dH=some r→Sub D9 g2→Sep c g2 h2 [.bx aro [ag2],.bx arp [vi bY],.bx arq [vi dH],.ds cd]→td (vi ar) cd h2)(H:nv c R r):RA w0 E R (vi iI) td d45 h:=by
 unfold RA;unfold W0 at M;refine gE.2 ?_;have S:=S.f3.f3.f3;exact Qk M BH S
theorem aGO {w0 c g h E R r N iI v2 aq v3 v4 aK bf bg cH kK bI bA d44 td ur D9}(M:W3 N iI v2 aq v3 v4 ur=some r)(S:Sep c g h [.bx cH [kK],.bx bI [vi v3],.bx bA [vi v4],.ds d44])(bj:aa ah.rep 4 g bf v2.ab)(bz:aa al.rep 3 g bg v2.aI)(gA:g.bH aK 0 [.string v2.aC,.string v2.ay,vi v2.fArgs,vi v2.aE,vi v2.aD,bf,bg])(lX:aa (rI .i64) 1 g kK aq)(BH:Sub D9 g)(Qk:∀{ar:Int}{cd:List Nat}{bY dH:Int}{g2 h2:AH},ur ar bY dH=some r→Sub D9 g2→Sep c g2 h2 [.bx cH [kK],.bx bI [vi bY],.bx bA [vi dH],.ds cd]→td (vi ar) cd h2)(H:nv c R r):RD w0 E R (vi iI) (ak aK 0) (ak cH 0) (ak bI 0) (ak bA 0) td d44 h:=by
 unfold RD;unfold W3 at M;refine S.alloc (l:=[vi 0]) (ag rfl rfl) (fun ars h S=>?_);refine S.cV [vi iI] [vi iI] rfl rfl (ag rfl rfl) (zaa rfl) rfl (fun h S=>?_);refine S.iX gA rfl (by decide) (S.aP 0 rfl rfl ?_);obtain⟨GL,O1,M⟩:=bind_some M;refine V6 N v2 iI bf bg S.sub S.ok bj bz O1 (fun g h aLM S1 ag3=>?_);have gA:=S1.bF.bH gA;have bj:=aa.mono bj ah.mono S1.bF;have bz:=aa.mono bz al.mono S1.bF;have lX:=aa.mono lX (eD .i64) S1.bF;have BH:=Sub.trans BH S1.bF;have S:=S.ou S1;have S:=S.f3.f3.f2.f3.f4;obtain⟨G3,agJ,M⟩:=bind_some M;refine Vn (fun(s:Int×Int) (x:Int×Int)=>G2 N aq iI s.1 s.2 x.1 x.2 (fun f m0 m1=>some ((m0,m1),f))) (fun(s:Int×Int) (g h:AH) (Γ:List Ob)=>Γ=[.bx cH [kK],.bx ars [vi iI],.bx bI [vi s.1],.bx bA [vi s.2]]∧aa (rI .i64) 1 g kK aq) ag3 (fun s g h Γ g' h' hd sb=>by obtain⟨e,z0⟩:=hd;exact⟨e,aa.mono z0 (eD .i64) sb⟩) S ⟨rfl,lX⟩ agJ (fun lo n q s x s2 f R g2 h2 Γ2 sub S D1 bm kk=>?_) (fun uI g h Γ2 sg S D1=>?_)
 · obtain⟨rfl,art⟩:=D1;show RB w0 qd R (ak cH 0) (ak ars 0) (ak bI 0) (ak bA 0) lo n (vi x.1) (vi x.2) h2;exact aGL bm S art (Sub.refl g2) (fun e sb S3  =>by cases e;exact kk _ _ _ sb S3 ⟨rfl,(aa.mono art (eD .i64) sb)⟩)
 · obtain⟨rfl,_⟩:=D1;have gA:=sg.bH gA;have bj:=aa.mono bj ah.mono sg;have bz:=aa.mono bz al.mono sg;have ag3:=Bj.mono ag3 sg;have lX:=aa.mono lX (eD .i64) sg;have BH:=Sub.trans BH sg;cases hf:G3.2 with
   | go=>
    rw [hf]at M;have M:=aeI M;refine Vk ?_;have S:=S.f4.f4.f3.f3.t4;exact aGN M S lX BH Qk H
   | ret=>
    rw [hf]at M;have M:=aeJ M;refine aeK (S.iH (fun h S=>?_));refine S.aP 2 rfl rfl (S.aP 3 rfl rfl ?_);cases M;exact H _ _  S.bO
   | ex j=>
    rw [hf]at M;cases M
theorem aGP {w0 c g h E R r N v3 v4 bI bA d23}  (M:ag0 N v3 v4=some r)(S:Sep c g h [.bx bI [vi v3],.bx bA [vi v4],.ds d23])   (H:nv c R r):Ry w0 E R (ak bI 0) (ak bA 0) d23 h:=by
 unfold Ry;unfold ag0 at M;refine S.cV [vi 0] [vi 0] rfl rfl (ag rfl rfl) (zaa rfl) rfl (fun h S=>?_);have S:=S.f1;refine S.cV [vi 0] [vi 0] rfl rfl (ag rfl rfl) (zaa rfl) rfl (fun h S=>?_);have S:=S.f2;refine S.iH (fun h S=>?_);refine S.aP 1 rfl rfl (S.aP 0 rfl rfl ?_);cases M;exact H _ _  S.bO
theorem aGQ {w0 c g h E R r N v2 v3 v4 aK bf bg bI bA d22}  (M:Qf N v2 v3 v4=some r)(S:Sep c g h [.bx bI [vi v3],.bx bA [vi v4],.ds d22])(bj:aa ah.rep 4 g bf v2.ab)(bz:aa al.rep 3 g bg v2.aI)(gA:g.bH aK 0 (ZZA v2 bf bg))  (H:nv c R r):Rz w0 E R (ak aK 0) (ak bI 0) (ak bA 0) d22 h:=by
 unfold Rz;unfold Qf at M;refine S.iX gA rfl (by decide) ?_;obtain⟨zr,GH,M⟩:=bind_some M;refine ap6 GH S.sub S.ok bj bz (fun g h aLN S1 aLO=>?_);have gA:=S1.bF.bH gA;have bj:=aa.mono bj ah.mono S1.bF;have bz:=aa.mono bz al.mono S1.bF;have S:=S.ou S1;refine(fk rfl).2 ?_;refine(fk rfl).2 ?_;refine dZ.2 (bR (fun hc=>?_) (fun hc=>?_))
 · have M:=aV hc M;refine S.cV [vi 12] [vi 12] rfl rfl (ag rfl rfl) (zaa rfl) rfl (fun h S=>?_);have S:=S.f1;refine S.cV [vi 0] [vi 0] rfl rfl (ag rfl rfl) (zaa rfl) rfl (fun h S=>?_);have S:=S.f2;refine S.iH (fun h S=>?_);refine S.aP 1 rfl rfl (S.aP 0 rfl rfl ?_);cases M;exact H _ _  S.bO
 · have M:=aX hc M;exact aGP M S  H
theorem aGR {w0 c g h E R r N bh v2 aq v3 v4 iI aK bf bg cH kK bI bA d42 td ur D9}(M:D6 N bh v2 aq v3 v4 iI ur=some r)(S:Sep c g h [.bx cH [kK],.bx bI [vi v3],.bx bA [vi v4],.ds d42])(bj:aa ah.rep 4 g bf v2.ab)(bz:aa al.rep 3 g bg v2.aI)(gA:g.bH aK 0 (ZZA v2 bf bg))(lX:aa (rI .i64) 1 g kK aq)(BH:Sub D9 g)(Qk:∀{ar:Int}{cd:List Nat}{bY dH:Int}{g2 h2:AH},ur ar bY dH=some r→Sub D9 g2→Sep c g2 h2 [.bx cH [kK],.bx bI [vi bY],.bx bA [vi dH],.ds cd]→td (vi ar) cd h2)(H:nv c R r):KA w0 E R (vi bh) (ak aK 0) (ak cH 0) (ak bI 0) (ak bA 0) td (vi iI) d42 h:=by
 unfold KA;unfold D6 at M;refine fj.2 (bR (fun hc=>?_) (fun hc=>?_))
 · have M:=aV hc M;exact aGO M S bj bz gA lX BH Qk H
 · have M:=aX hc M;have S:=S.f3.f3.f3.t3;exact aGQ M S bj bz gA H
theorem aGS {w0 c E R r N bh v2 aq aK bf bg cH kK bI bA}   (H:nv c R r):∀(n:Nat){v3 v4 iI:Int}{d42:List Nat}{g h:AH},Qg N bh v2 aq n v3 v4 iI=some r→Sep c g h [.bx cH [kK],.bx bI [vi v3],.bx bA [vi v4],.ds d42]→aa ah.rep 4 g bf v2.ab→aa al.rep 3 g bg v2.aI→g.bH aK 0 (ZZA v2 bf bg)→aa (rI .i64) 1 g kK aq→gg (α:=(Z)×List Nat) (fun k a=>KA w0 E R (vi bh) (ak aK 0) (ak cH 0) (ak bI 0) (ak bA 0) (fun b0 q=>k ((b0),q)) a.1 a.2) n ((vi iI),d42) h:=by
 intro n
 induction n with
 | zero=>
  intro v3 v4 iI d42 g h M S bj bz gA lX ;unfold Qg at M;cases M
 | succ n ih=>
  intro v3 v4 iI d42 g h M S bj bz gA lX ;exact aGR M S bj bz gA lX  (Sub.refl g) (fun M2 sub S2  =>ih M2 S2 (aa.mono bj ah.mono sub) (aa.mono bz al.mono sub) (Sub.bH sub gA) (aa.mono lX (eD .i64) sub)) H
theorem aGT {w0 c g h E R r N v2 aq v3 v4 aK bf bg cH kK bI bA d21}  (M:G4 N v2 aq v3 v4=some r)(S:Sep c g h [.bx cH [kK],.bx bI [vi v3],.bx bA [vi v4],.ds d21])(bj:aa ah.rep 4 g bf v2.ab)(bz:aa al.rep 3 g bg v2.aI)(gA:g.bH aK 0 (ZZA v2 bf bg))(lX:aa (rI .i64) 1 g kK aq)  (H:nv c R r):RE w0 E R (ak aK 0) (ak cH 0) (ak bI 0) (ak bA 0) d21 h:=by
 unfold RE;unfold G4 at M;refine aQ.2 (S.dK (gA 5 _ rfl) (bj.len ?_));exact⟨N,aGS  H _ M S bj bz gA lX⟩
theorem aGU {w0 c g h E R r N iy eB v2 v11 v3 v4 aq eP D8 aK bf bg bI bA cH kK d77 kj jS qL}(M:D7 N iy eB v2 v11 v3 v4 aq eP jS=some r)(S:Sep c g h [.bx bI [vi v3],.bx bA [vi v4],.bx cH [kK],.ds d77])(G6:aa al.rep 3 g D8 eB)(bj:aa ah.rep 4 g bf v2.ab)(bz:aa al.rep 3 g bg v2.aI)(gA:g.bH aK 0 (ZZA v2 bf bg))(lX:aa (rI .i64) 1 g kK aq)(uv:Sub qL g)(uw:∀{ar:Int}{cd:List Nat}{di bY:Int}{g2 h2:AH},jS ar di bY=some r→Sub qL g2→Sep c g2 h2 [.bx bI [vi di],.bx bA [vi bY],.bx cH [kK],.ds cd]→kj (vi ar) cd h2)(H:nv c R r):KC w0 E R (vi iy) D8 (ak aK 0) (vi v11) (ak bI 0) (ak bA 0) (ak cH 0) kj (vi eP) d77 h:=by
 unfold KC;unfold D7 at M;refine fj.2 (bR (fun hc=>?_) (fun hc=>?_))
 · have M:=aV hc M;have S:=S.f2.f3.f3.f3;exact aGK M S G6 bj bz gA lX uv uw H
 · have M:=aX hc M;have S:=S.f3.f2.f2.f3;exact aGT M S bj bz gA lX H
theorem aGV {w0 c E R r N iy eB v2 v11 aq D8 aK bf bg bI bA cH kK}   (H:nv c R r):∀(n:Nat){v3 v4 eP:Int}{d77:List Nat}{g h:AH},Qh N iy eB v2 v11 aq n v3 v4 eP=some r→Sep c g h [.bx bI [vi v3],.bx bA [vi v4],.bx cH [kK],.ds d77]→aa al.rep 3 g D8 eB→aa ah.rep 4 g bf v2.ab→aa al.rep 3 g bg v2.aI→g.bH aK 0 (ZZA v2 bf bg)→aa (rI .i64) 1 g kK aq→gg (α:=(Z)×List Nat) (fun k a=>KC w0 E R (vi iy) D8 (ak aK 0) (vi v11) (ak bI 0) (ak bA 0) (ak cH 0) (fun b0 q=>k ((b0),q)) a.1 a.2) n ((vi eP),d77) h:=by
 intro n
 induction n with
 | zero=>
  intro v3 v4 eP d77 g h M S G6 bj bz gA lX ;unfold Qh at M;cases M
 | succ n ih=>
  intro v3 v4 eP d77 g h M S G6 bj bz gA lX ;exact aGU M S G6 bj bz gA lX  (Sub.refl g) (fun M2 sub S2  =>ih M2 S2 (aa.mono G6 al.mono sub) (aa.mono bj ah.mono sub) (aa.mono bz al.mono sub) (Sub.bH sub gA) (aa.mono lX (eD .i64) sub)) H
theorem aGW {w0 c g h E R r N v2 v11 v3 v4 aq aK bf bg bI bA cH kK d20}  (M:G5 N v2 v11 v3 v4 aq=some r)(S:Sep c g h [.bx bI [vi v3],.bx bA [vi v4],.bx cH [kK],.ds d20])(bj:aa ah.rep 4 g bf v2.ab)(bz:aa al.rep 3 g bg v2.aI)(gA:g.bH aK 0 (ZZA v2 bf bg))(lX:aa (rI .i64) 1 g kK aq)  (H:nv c R r):RK w0 E R (ak aK 0) (vi v11) (ak bI 0) (ak bA 0) (ak cH 0) d20 h:=by
 unfold RK;unfold G5 at M;refine aQ.2 (S.dK (gA 6 _ rfl) (bz.len ?_));exact⟨N,aGV  H _ M S bz bj bz gA lX⟩
theorem aGX {w0 c g h E R r N v1 v2 v3 v4 v11 av aA az aR aK bf bg bI bA d12}  (M:Qi N v1 v2 v3 v4 v11=some r)(S:Sep c g h [.bx bI [vi v3],.bx bA [vi v4],.ds d12])(aH:aa aZ.rep 4 g aA v1.bE)(aG:aa bD.rep 4 g az v1.bw)(aS:aa ae.rep 7 g aR v1.bp)(Ql:g.bH av 0 (ZZB v1 aA az aR))(bj:aa ah.rep 4 g bf v2.ab)(bz:aa al.rep 3 g bg v2.aI)(gA:g.bH aK 0 (ZZA v2 bf bg))  (H:nv c R r):RL w0 E R (ak av 0) (ak aK 0) (ak bI 0) (ak bA 0) (vi v11) d12 h:=by
 unfold RL;unfold Qi at M;refine S.iX Ql rfl (by decide) (S.iX gA rfl (by decide) ?_);obtain⟨pU,Gm,M⟩:=bind_some M;refine aFY Gm S.sub S.ok aH aG aS bj bz (fun g h aru S1 ag4=>?_);have Ql:=S1.bF.bH Ql;have aH:=aa.mono aH aZ.mono S1.bF;have aG:=aa.mono aG bD.mono S1.bF;have aS:=aa.mono aS ae.mono S1.bF;have gA:=S1.bF.bH gA;have bj:=aa.mono bj ah.mono S1.bF;have bz:=aa.mono bz al.mono S1.bF;have S:=S.ou S1;refine(fk rfl).2 ?_;refine(fk rfl).2 ?_;refine S.alloc (l:=[bJ]) (ag rfl rfl) (fun Jv h S=>?_);refine S.cV [aru] [aru] (mE ag4.one) rfl (ag ag4.one rfl) (zaa rfl) rfl (fun h S=>?_);refine sk.2 (bR (fun hc=>?_) (fun hc=>?_))
 · have M:=aV hc M;have S:=S.f1;refine S.cV [vi 2] [vi 2] rfl rfl (ag rfl rfl) (zaa rfl) rfl (fun h S=>?_);have S:=S.f2;refine S.cV [vi pU.2] [vi pU.2] rfl rfl (ag rfl rfl) (zaa rfl) rfl (fun h S=>?_);have S:=S.f3;refine S.iH (fun h S=>?_);refine S.aP 1 rfl rfl (S.aP 0 rfl rfl ?_);cases M;exact H _ _  S.bO
 · have M:=aX hc M;have S:=S.f3.f1.f3.f3;exact aGW M S bj bz gA ag4 H
theorem aGY {w0 c g h E R r N v2 v3 v4 v1 aK bf bg bI bA av aA az aR d7}  (M:J5 N v2 v3 v4 v1=some r)(S:Sep c g h [.bx bI [vi v3],.bx bA [vi v4],.ds d7])(bj:aa ah.rep 4 g bf v2.ab)(bz:aa al.rep 3 g bg v2.aI)(gA:g.bH aK 0 (ZZA v2 bf bg))(aH:aa aZ.rep 4 g aA v1.bE)(aG:aa bD.rep 4 g az v1.bw)(aS:aa ae.rep 7 g aR v1.bp)(Ql:g.bH av 0 (ZZB v1 aA az aR))  (H:nv c R r):RM w0 E R (ak aK 0) (ak bI 0) (ak bA 0) (ak av 0) d7 h:=by
 unfold RM;unfold J5 at M;refine aQ.2 (S.dK (gA 5 _ rfl) (bj.len (lB.2 (aQ.2 (S.dK (gA 5 _ rfl) ?_)))));obtain⟨pZ,agH,M⟩:=bind_some M;refine aa.idx bj agH (fun aFD aFE vs aFF agI rp=>?_);cases rp;refine aQ.2 (S.dK (agI 0 _ rfl) ?_);obtain⟨oL,aGZ,M⟩:=bind_some M;refine Gh pZ.aJ S.sub S.ok aGZ (fun _ h  S1  =>?_);have S:=S.dz S1;refine(fk rfl).2 ?_;refine(fk rfl).2 ?_;refine S.alloc (l:=[(.string (⟨⟨[]⟩⟩:ByteArray)),vi 0,vi 0,vi 0,vi 0,vi 0,vi 0,.bool false,.bool false]) (ag rfl (ag rfl (ag rfl (ag rfl (ag rfl (ag rfl (ag rfl (ag rfl (ag rfl rfl))))))))) (fun af7 h S=>?_);refine S.cV [.string oL.1.ml,vi oL.1.cL.e0,vi oL.1.cL.e1,vi oL.1.cL.e2,vi oL.1.jx,vi oL.1.dF.e0,vi oL.1.dF.e1,.bool oL.1.jV,.bool oL.1.jP] [.string oL.1.ml,vi oL.1.cL.e0,vi oL.1.cL.e1,vi oL.1.cL.e2,vi oL.1.jx,vi oL.1.dF.e0,vi oL.1.dF.e1,.bool oL.1.jV,.bool oL.1.jP] rfl rfl (ag rfl (ag rfl (ag rfl (ag rfl (ag rfl (ag rfl (ag rfl (ag rfl (ag rfl rfl))))))))) (zaa rfl) rfl (fun h S=>?_);refine aQ.2 (S.aP 0 rfl rfl (dZ.2 (bR (fun hc=>?_) (fun hc=>?_))))
 · have M:=aV hc M;have S:=S.f1;refine S.cV [vi 2] [vi 2] rfl rfl (ag rfl rfl) (zaa rfl) rfl (fun h S=>?_);have S:=S.f2;refine S.cV [(vi (bN .i64 ((v2.ab.length:Int)-1)))] [(vi (bN .i64 ((v2.ab.length:Int)-1)))] rfl rfl (ag rfl rfl) (zaa rfl) rfl (fun h S=>?_);have S:=S.f3;refine S.iH (fun h S=>?_);refine S.aP 1 rfl rfl (S.aP 0 rfl rfl ?_);cases M;exact H _ _  S.bO
 · have M:=aX hc M;have S:=S.f3.f3.f3.t3;exact aGX M S aH aG aS Ql bj bz gA H
theorem aG0 {w0 c g h E R r N v2 v1 v3 v4 aK bf bg av aA az aR bI bA d6}  (M:J6 N v2 v1 v3 v4=some r)(S:Sep c g h [.bx aK (ZZA v2 bf bg),.bx av (ZZB v1 aA az aR),.bx bI [vi v3],.bx bA [vi v4],.ds d6])(bj:aa ah.rep 4 g bf v2.ab)(bz:aa al.rep 3 g bg v2.aI)(aH:aa aZ.rep 4 g aA v1.bE)(aG:aa bD.rep 4 g az v1.bw)(aS:aa ae.rep 7 g aR v1.bp)  (H:nv c R r):RN w0 E R (ak aK 0) (ak av 0) (ak bI 0) (ak bA 0) d6 h:=by
 unfold RN;unfold J6 at M;refine aQ.2 (S.aP 0 rfl rfl ?_);refine(Ii (by simp)).2 ?_;have S:=S.f1;obtain⟨g,sg,S,Jn⟩:=S.vk;have aH:=aa.mono aH aZ.mono sg;have aG:=aa.mono aG bD.mono sg;have aS:=aa.mono aS ae.mono sg;have bj:=aa.mono bj ah.mono sg;have bz:=aa.mono bz al.mono sg;obtain⟨g,sg,S,Wu⟩:=S.vk;have bj:=aa.mono bj ah.mono sg;have bz:=aa.mono bz al.mono sg;have Jn:=sg.bH Jn;have aH:=aa.mono aH aZ.mono sg;have aG:=aa.mono aG bD.mono sg;have aS:=aa.mono aS ae.mono sg;have aG1:Bv w0 g (.func (.func Q3) ⟨[]⟩ ⟨[ak av 0,ak aK 0]⟩) (fun a0=>Qa N a0 v1 v2):=⟨rfl,fun a0 r E K g2 h2 s1 s2 s3  m1 k1=>aGC m1 s2 s3 (aa.mono aH aZ.mono s1) (aa.mono aG bD.mono s1) (aa.mono aS ae.mono s1) (Sub.bH s1 Jn) (aa.mono bj ah.mono s1) (aa.mono bz al.mono s1) (Sub.bH s1 Wu) k1⟩;obtain⟨Ba,ad6,M⟩:=bind_some M;refine aF8 ad6 S.sub S.ok bj aG1 (fun _ h  S1  =>?_);have S:=S.dz S1;refine sk.2 (bR (fun hc=>?_) (fun hc=>?_))
 · have M:=aV hc M;refine S.cV [vi 1] [vi 1] rfl rfl (ag rfl rfl) (zaa rfl) rfl (fun h S=>?_);have S:=S.f1;refine S.cV [vi Ba] [vi Ba] rfl rfl (ag rfl rfl) (zaa rfl) rfl (fun h S=>?_);have S:=S.f2;refine S.iH (fun h S=>?_);refine S.aP 1 rfl rfl (S.aP 0 rfl rfl ?_);cases M;exact H _ _  S.bO
 · have M:=aX hc M;exact aGY M S bj bz Wu aH aG aS Jn H
theorem aG2 {w0 c g h E R r N v2 v3 v4 v1 aK bf bg bI bA av aA az aR d5}  (M:Qj N v2 v3 v4 v1=some r)(S:Sep c g h [.bx aK (ZZA v2 bf bg),.bx bI [vi v3],.bx bA [vi v4],.bx av (ZZB v1 aA az aR),.ds d5])(bj:aa ah.rep 4 g bf v2.ab)(bz:aa al.rep 3 g bg v2.aI)(aH:aa aZ.rep 4 g aA v1.bE)(aG:aa bD.rep 4 g az v1.bw)(aS:aa ae.rep 7 g aR v1.bp)  (H:nv c R r):RO w0 E R (ak aK 0) (ak bI 0) (ak bA 0) (ak av 0) d5 h:=by
 unfold RO;unfold Qj at M;refine S.eA (ZZA v2 bf bg) 0 rfl rfl rfl (by decide) ?_;obtain⟨fD,qC,M⟩:=bind_some M;refine aEX qC S.sub S.ok bj bz (fun _ h  S1  =>?_);have S:=S.dz S1;refine gb.2 (bR (fun hc=>?_) (fun hc=>?_))
 · have M:=aV hc M;have S:=S.f1;refine S.cV [vi fD] [vi fD] rfl rfl (ag rfl rfl) (zaa rfl) rfl (fun h S=>?_);have S:=S.f2;refine S.cV [vi 0] [vi 0] rfl rfl (ag rfl rfl) (zaa rfl) rfl (fun h S=>?_);have S:=S.f4;refine S.iH (fun h S=>?_);refine S.aP 1 rfl rfl (S.aP 0 rfl rfl ?_);cases M;exact H _ _  S.bO
 · have M:=aX hc M;have S:=S.f4.f3.f3.f4.f4;exact aG0 M S bj bz aH aG aS H
theorem ag5 {w0 c g h E R r N v3 v4 v2 v1 yd bI bA aK bf bg av aA az aR}  (M:J7 N v3 v4 v2 v1 yd=some r)(S:Sep c g h [.bx bI [vi v3],.bx bA [vi v4],.bx aK (ZZA v2 bf bg),.bx av (ZZB v1 aA az aR),.ds ([]:List Nat)])(bj:aa ah.rep 4 g bf v2.ab)(bz:aa al.rep 3 g bg v2.aI)(aH:aa aZ.rep 4 g aA v1.bE)(aG:aa bD.rep 4 g az v1.bw)(aS:aa ae.rep 7 g aR v1.bp)  (H:nv c R r):RP w0 E R (ak bI 0) (ak bA 0) (ak aK 0) (ak av 0) (.bool yd) h:=by
 unfold RP;unfold J7 at M;refine bR (fun hc=>?_) (fun hc=>?_)
 · have M:=aV hc M;refine S.cV [vi 4] [vi 4] rfl rfl (ag rfl rfl) (zaa rfl) rfl (fun h S=>?_);have S:=S.f1;refine S.cV [vi 0] [vi 0] rfl rfl (ag rfl rfl) (zaa rfl) rfl (fun h S=>?_);have S:=S.f4;refine S.iH (fun h S=>?_);refine S.aP 1 rfl rfl (S.aP 0 rfl rfl ?_);cases M;exact H _ _  S.bO
 · have M:=aX hc M;have S:=S.f4.f4.f3.f3.f4;exact aG2 M S bj bz aH aG aS H
theorem aof {w0 g h Q r N x0 x1 cw cx iY kB kC}(M:IW N x0 x1=some r)(sg:Sub g h)(ok:h.Ok)(cg:aa aZ.rep 4 g cw x0.bE)(cz:aa bD.rep 4 g cx x0.bw)(jF:aa ae.rep 7 g iY x0.bp)(lG:aa ah.rep 4 g kB x1.ab)(nb:aa al.rep 3 g kC x1.aI)(H:nv ⟨g,h,[]⟩ (fun v=>Q (.ret v)) r):WF PP w0 RR [(.agg ⟨(ZZB x0 cw cx iY)⟩),(.agg ⟨(ZZA x1 kB kC)⟩)] h Q:=by
 refine atH _ _ ?_;have S:=Sep.start sg ok;unfold aiu;unfold IW at M;have S:Sep _ g h [.ds ([]:List Nat)]:=S.Vm;refine S.box (ZZB x0 cw cx iY) rfl (ag cg.one (ag cz.one (ag jF.one (ag rfl (ag rfl rfl))))) (fun jN h S=>?_);refine S.box (ZZA x1 kB kC) rfl (ag rfl (ag rfl (ag rfl (ag rfl (ag rfl (ag lG.one (ag nb.one rfl))))))) (fun sE h S=>?_);refine S.alloc (l:=[vi 0]) (ag rfl rfl) (fun vo h S=>?_);refine S.alloc (l:=[vi 0]) (ag rfl rfl) (fun MV h S=>?_);refine aQ.2 ?_;refine S.aP 2 rfl rfl ?_;obtain⟨jw,qB,M⟩:=bind_some M;refine P9 x1.aC S.sub S.ok qB (fun _ h  S1  =>?_);have S:=S.dz S1;refine dZ.2 ?_;cases hc:(!jw)
 · have M:=aX hc M;refine au rfl ?_;refine aQ.2 ?_;refine au rfl ?_;refine S.aP 2 rfl rfl ?_;refine au rfl ?_;refine ac7.2 ?_;refine au rfl ?_;cases hc:(!decide (x1.ay=(⟨⟨[]⟩⟩:ByteArray)))
   · have M:=aX hc M;refine ax (by decide) ?_;refine ax (by decide) ?_;refine ax (by decide) ?_;refine ax (by decide) ?_;refine au rfl ?_;refine aW.2 ?_;refine aW.2 ?_;have S:=S.f4;have S:=S.f4;have S:=S.f4;have S:=S.f3;have S:=S.f4;exact ag5 M S lG nb cg cz jF H
   · have M:=aV hc M;refine au rfl ?_;refine aQ.2 ?_;refine au rfl ?_;refine S.aP 2 rfl rfl ?_;refine au rfl ?_;obtain⟨eR,mL,M⟩:=bind_some M;refine P9 x1.ay S.sub S.ok mL (fun _ h  S1  =>?_);have S:=S.dz S1;refine au rfl ?_;refine dZ.2 ?_;refine au rfl ?_;refine aW.2 ?_;refine aW.2 ?_;have S:=S.f4;have S:=S.f4;have S:=S.f4;have S:=S.f3;have S:=S.f4;exact ag5 M S lG nb cg cz jF H
 · have M:=aV hc M;refine ax (by decide) ?_;refine ax (by decide) ?_;refine ax (by decide) ?_;refine ax (by decide) ?_;refine dQ ?_;refine dQ ?_;refine dQ ?_;refine dQ ?_;refine ax (by decide) ?_;refine aW.2 ?_;have S:=S.f4;have S:=S.f4;have S:=S.f4;have S:=S.f3;have S:=S.f4;exact ag5 M S lG nb cg cz jF H
def W4 (N:Nat) (eH:Int) (J8:bB) (gB:aO) (j4:bB) (lY:Int→Option (Int×bB)):Option (Int×bB):=
 lY (bN .i64 (eH+1))
def W5 (N:Nat) (v93:bD) (eH:Int) (v2:bB) (gB:aO) (j4:bB) (lY:Int→Option (Int×bB)):Option (Int×bB):=
(kb v93.fArgs 0 16).bind fun rv=>
 bif (!rv)then(
 some (1,(bB.mk (-1) eH)))else(
 W4 N eH v2 gB j4 lY)
def Qm (N:Nat) (eH:Int) (v2:bB) (v93:bD) (pG:Bool) (gB:aO) (j4:bB) (lY:Int→Option (Int×bB)):Option (Int×bB):=
 bif pG then(
 some (4,(bB.mk (-1) eH)))else(
 W5 N v93 eH v2 gB j4 lY)
def W6 (N:Nat) (v85:List bD) (eH:Int) (v2:bB) (gB:aO) (j4:bB) (lY:Int→Option (Int×bB)):Option (Int×bB):=
(ix v85 eH).bind fun fq=>
(BG fq.aC).bind fun mn=>
 bif (!mn)then(
 Qm N eH v2 fq true gB j4 lY)else(
(BG fq.ay).bind fun kD=>
 Qm N eH v2 fq (!kD) gB j4 lY)
def W7 (N:Nat) (iK:Int) (BI:aO) (Ka:bB) (ux:bB) (uy:Int→Option (Int×bB)):Option (Int×bB):=
 uy (bN .i64 (iK+1))
def W8 (N:Nat) (v1:aO) (iK:Int) (v2:bB) (ux:bB) (uy:Int→Option (Int×bB)):Option (Int×bB):=
(P8 N v1 iK).bind fun ke=>
 bif (!decide (ke=0))then(
 some (ke,(bB.mk (-1) iK)))else(
 W7 N iK v1 v2 ux uy)
def W9 (N:Nat) (iJ:Int) (BJ:aO) (Kb:bB) (uz:bB) (uA:Int→Option (Int×bB)):Option (Int×bB):=
 uA (bN .i64 (iJ+1))
def Xa (N:Nat) (bS:List ae) (iJ:Int) (v1:aO) (v2:bB) (uz:bB) (uA:Int→Option (Int×bB)):Option (Int×bB):=
(ix bS iJ).bind fun oD=>
(IW N v1 oD).bind fun jY=>
 bif (!decide (jY.1=0))then(
 some (jY.1,(bB.mk iJ jY.2)))else(
 W9 N iJ v1 v2 uz uA)
def Xb (N:Nat) (v2:bB)  :Option (Int×bB):=
 some (0,(bB.mk 0 0))
def Qn (N:Nat) (v4:bB) (v2:bB) (dP:Bool)  :Option (Int×bB):=
 bif dP then(
 some (1,v4))else(
 Xb N v2)
def Qo (N:Nat) (v1:aO) (v4:bB) (v2:bB) (eO:Bool)  :Option (Int×bB):=
 bif eO then(
 Qn N v4 v2 true)else(
(ix v1.bE v1.bo).bind fun P0=>
(ix P0.gh v1.bn).bind fun zr=>
 Qn N v4 v2 (decide (zr<0)))
def Qp (N:Nat) (v1:aO) (v4:bB) (v2:bB) (ct:Bool)  :Option (Int×bB):=
 bif ct then(
 Qo N v1 v4 v2 true)else(
(ix v1.bw v1.bn).bind fun j8=>
(WO j8).bind fun GL=>
 Qo N v1 v4 v2 (!GL))
def Qq (N:Nat) (v1:aO) (v4:bB) (v2:bB)  :Option (Int×bB):=
(kb v1.bo 0 (bN .i64 ((v1.bE.length:Int)-1))).bind fun JM=>
 bif (!JM)then(
 Qp N v1 v4 v2 true)else(
(kb v1.bn 0 (bN .i64 ((v1.bw.length:Int)-1))).bind fun Dr=>
 Qp N v1 v4 v2 (!Dr))
def Ea (N:Nat) (v53:Int) (bS:List ae) (v1:aO) (v2:bB) (v4:bB) (iJ:Int) (uA:Int→Option (Int×bB)):Option (Int×bB):=
 bif (decide (iJ<v53))then(
 Xa N bS iJ v1 v2 v4 uA)else(
 Qq N v1 v4 v2)
def Kc (N:Nat) (v53:Int) (bS:List ae) (v1:aO) (v2:bB) (v4:bB)  :Nat→Int→Option (Int×bB) | 0,_=>none | n+1,iJ=>Ea N v53 bS v1 v2 v4 iJ  (fun ar=>Kc N v53 bS v1 v2 v4 n ar)
def Qr (N:Nat) (v1:aO) (v2:bB) (v4:bB)  :Option (Int×bB):=
 Kc N (v1.bp.length:Int) v1.bp v1 v2 v4 N 0
def Eb (N:Nat) (eB:Int) (v1:aO) (v2:bB) (v4:bB) (iK:Int) (uy:Int→Option (Int×bB)):Option (Int×bB):=
 bif (decide (iK<eB))then(
 W8 N v1 iK v2 v4 uy)else(
 Qr N v1 v2 v4)
def Kd (N:Nat) (eB:Int) (v1:aO) (v2:bB) (v4:bB)  :Nat→Int→Option (Int×bB) | 0,_=>none | n+1,iK=>Eb N eB v1 v2 v4 iK  (fun ar=>Kd N eB v1 v2 v4 n ar)
def Qs (N:Nat) (v1:aO) (v2:bB) (v4:bB)  :Option (Int×bB):=
 Kd N (v1.bE.length:Int) v1 v2 v4 N 0
def Ec (N:Nat) (kM:Int) (v85:List bD) (v2:bB) (v1:aO) (v4:bB) (eH:Int) (lY:Int→Option (Int×bB)):Option (Int×bB):=
 bif (decide (eH<kM))then(
 W6 N v85 eH v2 v1 v4 lY)else(
 Qs N v1 v2 v4)
def Ke (N:Nat) (kM:Int) (v85:List bD) (v2:bB) (v1:aO) (v4:bB)  :Nat→Int→Option (Int×bB) | 0,_=>none | n+1,eH=>Ec N kM v85 v2 v1 v4 eH  (fun ar=>Ke N kM v85 v2 v1 v4 n ar)
def Xc (N:Nat) (v1:aO) (v2:bB) (v4:bB)  :Option (Int×bB):=
 Ke N (v1.bw.length:Int) v1.bw v2 v1 v4 N 0
def Qt (N:Nat) (v4:bB) (v2:bB) (v1:aO) (tf:Bool)  :Option (Int×bB):=
 bif tf then(
 some (1,v4))else(
 Xc N v1 v2 v4)
def Xd (N:Nat) (v1:aO) (v4:bB) (v2:bB)  :Option (Int×bB):=
 bif (decide ((v1.bE.length:Int)=0))then(
 Qt N v4 v2 v1 true)else(
 Qt N v4 v2 v1 (decide ((v1.bp.length:Int)=0)))
def Qu (N:Nat) (v4:bB) (v2:bB) (v1:aO) (v139:Bool)  :Option (Int×bB):=
 bif v139 then(
 some (3,v4))else(
 Xd N v1 v4 v2)
def Qv (N:Nat) (v1:aO) (v4:bB) (v2:bB) (nC:Bool)  :Option (Int×bB):=
 bif nC then(
 Qu N v4 v2 v1 true)else(
 Qu N v4 v2 v1 (decide (400<(v1.bp.length:Int))))
def Nj (N:Nat) (x0:aO):Option (Int×bB):=
 bif (decide (60<(x0.bE.length:Int)))then(
 Qv N x0 (bB.mk (-1) 0) (bB.mk 0 0) true)else(
 Qv N x0 (bB.mk (-1) 0) (bB.mk 0 0) (decide (400<(x0.bw.length:Int))))
abbrev lu (c:Cx) (R:ZZF) (r:Int×bB):Prop:=∀(g' h':AH),Sep c g' h' []→R (.tuple ⟨[vi r.1,(.agg ⟨[vi r.2.cR,vi r.2.bG]⟩)]⟩) h'
theorem aG3 {w0 c g h E R r N eH J8 gB j4 arv xT sN sO sP xU l9 lY uB}(M:W4 N eH J8 gB j4 lY=some r)(S:Sep c g h [.bx arv [vi J8.cR,vi J8.bG],.bx xT (ZZB gB sN sO sP),.bx xU [vi j4.cR,vi j4.bG]])(G7:aa aZ.rep 4 g sN gB.bE)(G8:aa bD.rep 4 g sO gB.bw)(G9:aa ae.rep 7 g sP gB.bp)(zK:Sub uB g)(zL:∀{ar:Int}{g2 h2:AH},lY ar=some r→Sub uB g2→Sep c g2 h2 [.bx arv [vi J8.cR,vi J8.bG],.bx xT (ZZB gB sN sO sP),.bx xU [vi j4.cR,vi j4.bG]]→l9 (vi ar) h2)(H:lu c R r):Zl w0 E R (vi eH) l9 h:=by
 unfold Zl;unfold W4 at M;refine gE.2 ?_;exact zL M zK S
theorem aG4 {w0 c g h E R r N v93 eH v2 gB j4 Qw aK xT sN sO sP xU l9 lY uB}(M:W5 N v93 eH v2 gB j4 lY=some r)(S:Sep c g h [.bx Qw [.string v93.aC,.string v93.ay,vi v93.fArgs,.bool v93.nZ],.bx aK [vi v2.cR,vi v2.bG],.bx xT (ZZB gB sN sO sP),.bx xU [vi j4.cR,vi j4.bG]])(G7:aa aZ.rep 4 g sN gB.bE)(G8:aa bD.rep 4 g sO gB.bw)(G9:aa ae.rep 7 g sP gB.bp)(zK:Sub uB g)(zL:∀{ar:Int}{g2 h2:AH},lY ar=some r→Sub uB g2→Sep c g2 h2 [.bx aK [vi v2.cR,vi v2.bG],.bx xT (ZZB gB sN sO sP),.bx xU [vi j4.cR,vi j4.bG]]→l9 (vi ar) h2)(H:lu c R r):Zm w0 E R (ak Qw 0) (vi eH) (ak aK 0) l9 h:=by
 unfold Zm;unfold W5 at M;refine aQ.2 (S.aP 0 rfl rfl ?_);obtain⟨rv,Bm,M⟩:=bind_some M;refine mJ Bm S.sub S.ok (fun _ h  S1  =>?_);have S:=S.dz S1;refine dZ.2 (bR (fun hc=>?_) (fun hc=>?_))
 · have M:=aV hc M;refine Jb [(vi (-1)),vi eH] (by simp only [tN,sr,su,sv,sw,  zaE,zbu,Nat.reduceAdd,zav,zaK,zbo]) (by simp only [zaA,zbr,sr,su,sv,sw,  za2,zaU,zaS]) ?_;have S:=S.f1;refine S.cV [(vi (-1)),vi eH] [(vi (-1)),vi eH] rfl rfl (ag rfl (ag rfl rfl)) (zaa rfl) rfl (fun h S=>?_);refine S.eA [(vi (-1)),vi eH] 0 rfl rfl rfl (by decide) ?_;cases M;exact H _ _  S.bO
 · have M:=aX hc M;have S:=S.f3.f3.f3.t3;exact aG3 M S G7 G8 G9 zK zL H
theorem arw {w0 c g h E R r N eH v2 v93 pG gB j4 aK Qw xT sN sO sP xU l9 lY uB}(M:Qm N eH v2 v93 pG gB j4 lY=some r)(S:Sep c g h [.bx aK [vi v2.cR,vi v2.bG],.bx Qw [.string v93.aC,.string v93.ay,vi v93.fArgs,.bool v93.nZ],.bx xT (ZZB gB sN sO sP),.bx xU [vi j4.cR,vi j4.bG]])(G7:aa aZ.rep 4 g sN gB.bE)(G8:aa bD.rep 4 g sO gB.bw)(G9:aa ae.rep 7 g sP gB.bp)(zK:Sub uB g)(zL:∀{ar:Int}{g2 h2:AH},lY ar=some r→Sub uB g2→Sep c g2 h2 [.bx aK [vi v2.cR,vi v2.bG],.bx xT (ZZB gB sN sO sP),.bx xU [vi j4.cR,vi j4.bG]]→l9 (vi ar) h2)(H:lu c R r):Zn w0 E R (vi eH) (ak aK 0) (ak Qw 0) l9 (.bool pG) h:=by
 unfold Zn;unfold Qm at M;refine bR (fun hc=>?_) (fun hc=>?_)
 · have M:=aV hc M;refine Jb [(vi (-1)),vi eH] (by simp only [tN,sr,su,sv,sw,  zaE,zbu,Nat.reduceAdd,zav,zaK,zbo]) (by simp only [zaA,zbr,sr,su,sv,sw,  za2,zaU,zaS]) (S.cV [(vi (-1)),vi eH] [(vi (-1)),vi eH] rfl rfl (ag rfl (ag rfl rfl)) (zaa rfl) rfl (fun h S=>?_));refine S.eA [(vi (-1)),vi eH] 0 rfl rfl rfl (by decide) ?_;cases M;exact H _ _  S.bO
 · have M:=aX hc M;have S:=S.f3.f3.f2.f3;exact aG4 M S G7 G8 G9 zK zL H
theorem aG5 {w0 c g h E R r N v85 eH v2 gB j4 Ed aK xT sN sO sP xU l9 lY uB}(M:W6 N v85 eH v2 gB j4 lY=some r)(S:Sep c g h [.bx aK [vi v2.cR,vi v2.bG],.bx xT (ZZB gB sN sO sP),.bx xU [vi j4.cR,vi j4.bG]])(Ha:aa bD.rep 4 g Ed v85)(G7:aa aZ.rep 4 g sN gB.bE)(G8:aa bD.rep 4 g sO gB.bw)(G9:aa ae.rep 7 g sP gB.bp)(zK:Sub uB g)(zL:∀{ar:Int}{g2 h2:AH},lY ar=some r→Sub uB g2→Sep c g2 h2 [.bx aK [vi v2.cR,vi v2.bG],.bx xT (ZZB gB sN sO sP),.bx xU [vi j4.cR,vi j4.bG]]→l9 (vi ar) h2)(H:lu c R r):Zo w0 E R Ed (vi eH) (ak aK 0) l9 h:=by
 unfold Zo;unfold W6 at M;obtain⟨fq,Be,M⟩:=bind_some M;refine aa.idx Ha Be (fun b_6 o_7 vs E_9 r_8 rp=>?_);cases rp;refine S.iX r_8 rfl (by decide) (S.alloc (l:=[(.string (⟨⟨[]⟩⟩:ByteArray)),(.string (⟨⟨[]⟩⟩:ByteArray)),vi 0,.bool false]) (ag rfl (ag rfl (ag rfl (ag rfl rfl)))) (fun aqf h S=>?_));refine S.cV [.string fq.aC,.string fq.ay,vi fq.fArgs,.bool fq.nZ] [.string fq.aC,.string fq.ay,vi fq.fArgs,.bool fq.nZ] rfl rfl (ag rfl (ag rfl (ag rfl (ag rfl rfl)))) (zaa rfl) rfl (fun h S=>?_);refine aQ.2 (S.aP 0 rfl rfl ?_);obtain⟨mn,wv,M⟩:=bind_some M;refine P9 fq.aC S.sub S.ok wv (fun _ h  S1  =>?_);have S:=S.dz S1;refine dZ.2 ?_;cases hc:(!mn)
 · have M:=aX hc M;refine au rfl (aQ.2 (au rfl (S.aP 0 rfl rfl (au rfl ?_))));obtain⟨kD,vt,M⟩:=bind_some M;refine P9 fq.ay S.sub S.ok vt (fun _ h  S1  =>?_);have S:=S.dz S1;refine au rfl (dZ.2 (aW.2 ?_));have S:=S.f3.f3.f2.f3;exact arw M S G7 G8 G9 zK zL H
 · have M:=aV hc M;repeat refine ax (by decide) ?_;refine aW.2 ?_;have S:=S.f3.f3.f2.f3;exact arw M S G7 G8 G9 zK zL H
theorem aG6 {w0 c g h E R r N iK BI Ka ux arx ag6 ag7 ag8 ary Qx ti uy Ee}(M:W7 N iK BI Ka ux uy=some r)(S:Sep c g h [.bx arx (ZZB BI ag6 ag7 ag8),.bx ary [vi Ka.cR,vi Ka.bG],.bx Qx [vi ux.cR,vi ux.bG]])(aLP:aa aZ.rep 4 g ag6 BI.bE)(aLQ:aa bD.rep 4 g ag7 BI.bw)(aLR:aa ae.rep 7 g ag8 BI.bp)(Qy:Sub Ee g)(Qz:∀{ar:Int}{g2 h2:AH},uy ar=some r→Sub Ee g2→Sep c g2 h2 [.bx arx (ZZB BI ag6 ag7 ag8),.bx ary [vi Ka.cR,vi Ka.bG],.bx Qx [vi ux.cR,vi ux.bG]]→ti (vi ar) h2)(H:lu c R r):Zi w0 E R (vi iK) ti h:=by
 unfold Zi;unfold W7 at M;refine gE.2 ?_;exact Qz M Qy S
theorem aG7 {w0 c g h E R r N v1 iK v2 ux av aA az aR aK Qx ti uy Ee}(M:W8 N v1 iK v2 ux uy=some r)(S:Sep c g h [.bx av (ZZB v1 aA az aR),.bx aK [vi v2.cR,vi v2.bG],.bx Qx [vi ux.cR,vi ux.bG]])(aH:aa aZ.rep 4 g aA v1.bE)(aG:aa bD.rep 4 g az v1.bw)(aS:aa ae.rep 7 g aR v1.bp)(Qy:Sub Ee g)(Qz:∀{ar:Int}{g2 h2:AH},uy ar=some r→Sub Ee g2→Sep c g2 h2 [.bx av (ZZB v1 aA az aR),.bx aK [vi v2.cR,vi v2.bG],.bx Qx [vi ux.cR,vi ux.bG]]→ti (vi ar) h2)(H:lu c R r):Zj w0 E R (ak av 0) (vi iK) (ak aK 0) ti h:=by
 unfold Zj;unfold W8 at M;refine S.eA (ZZB v1 aA az aR) 0 rfl rfl rfl (by decide) ?_;obtain⟨ke,NV,M⟩:=bind_some M;refine aGz NV S.sub S.ok aH aG aS (fun _ h  S1  =>?_);have S:=S.dz S1;refine gb.2 (bR (fun hc=>?_) (fun hc=>?_))
 · have M:=aV hc M;refine Jb [(vi (-1)),vi iK] (by simp only [tN,sr,su,sv,sw,  zaE,zbu,Nat.reduceAdd,zav,zaK,zbo]) (by simp only [zaA,zbr,sr,su,sv,sw,  za2,zaU,zaS]) ?_;have S:=S.f1;refine S.cV [(vi (-1)),vi iK] [(vi (-1)),vi iK] rfl rfl (ag rfl (ag rfl rfl)) (zaa rfl) rfl (fun h S=>?_);refine S.eA [(vi (-1)),vi iK] 0 rfl rfl rfl (by decide) ?_;cases M;exact H _ _  S.bO
 · have M:=aX hc M;exact aG6 M S aH aG aS Qy Qz H
theorem aG8 {w0 c g h E R r N iJ BJ Kb uz arz ag9 aha ahb arA QA th uA Ef}(M:W9 N iJ BJ Kb uz uA=some r)(S:Sep c g h [.bx arz (ZZB BJ ag9 aha ahb),.bx arA [vi Kb.cR,vi Kb.bG],.bx QA [vi uz.cR,vi uz.bG]])(aLS:aa aZ.rep 4 g ag9 BJ.bE)(aLT:aa bD.rep 4 g aha BJ.bw)(aLU:aa ae.rep 7 g ahb BJ.bp)(QB:Sub Ef g)(QC:∀{ar:Int}{g2 h2:AH},uA ar=some r→Sub Ef g2→Sep c g2 h2 [.bx arz (ZZB BJ ag9 aha ahb),.bx arA [vi Kb.cR,vi Kb.bG],.bx QA [vi uz.cR,vi uz.bG]]→th (vi ar) h2)(H:lu c R r):Zf w0 E R (vi iJ) th h:=by
 unfold Zf;unfold W9 at M;refine gE.2 ?_;exact QC M QB S
theorem aG9 {w0 c g h E R r N bS iJ v1 v2 uz jj av aA az aR aK QA th uA Ef}(M:Xa N bS iJ v1 v2 uz uA=some r)(S:Sep c g h [.bx av (ZZB v1 aA az aR),.bx aK [vi v2.cR,vi v2.bG],.bx QA [vi uz.cR,vi uz.bG]])(j9:aa ae.rep 7 g jj bS)(aH:aa aZ.rep 4 g aA v1.bE)(aG:aa bD.rep 4 g az v1.bw)(aS:aa ae.rep 7 g aR v1.bp)(QB:Sub Ef g)(QC:∀{ar:Int}{g2 h2:AH},uA ar=some r→Sub Ef g2→Sep c g2 h2 [.bx av (ZZB v1 aA az aR),.bx aK [vi v2.cR,vi v2.bG],.bx QA [vi uz.cR,vi uz.bG]]→th (vi ar) h2)(H:lu c R r):Zg w0 E R jj (vi iJ) (ak av 0) (ak aK 0) th h:=by
 unfold Zg;unfold Xa at M;obtain⟨oD,agl,M⟩:=bind_some M;refine aa.idx j9 agl (fun aLV aLW vs apw Ow rp=>?_);obtain⟨U9,Wp,rfl,Va,agh⟩:=rp;refine S.iX Ow rfl (by decide) (S.alloc (l:=[(.string (⟨⟨[]⟩⟩:ByteArray)),(.string (⟨⟨[]⟩⟩:ByteArray)),vi 0,vi 0,vi 0,bJ,bJ]) (ag rfl (ag rfl (ag rfl (ag rfl (ag rfl (ag rfl (ag rfl rfl))))))) (fun Jv h S=>?_));refine S.cV (ZZA oD U9 Wp) (ZZA oD U9 Wp) rfl rfl (ag rfl (ag rfl (ag rfl (ag rfl (ag rfl (ag Va.one (ag agh.one rfl))))))) (zaa rfl) rfl (fun h S=>?_);refine S.eA (ZZB v1 aA az aR) 1 rfl rfl rfl (by decide) (S.eA (ZZA oD U9 Wp) 0 rfl rfl rfl (by decide) ?_);obtain⟨jY,Bo,M⟩:=bind_some M;refine aof Bo S.sub S.ok aH aG aS Va agh (fun _ h  S1  =>?_);have S:=S.dz S1;refine(fk rfl).2 ?_;refine(fk rfl).2 ?_;refine gb.2 (bR (fun hc=>?_) (fun hc=>?_))
 · have M:=aV hc M;refine Jb [vi iJ,vi jY.2] (by simp only [tN,sr,su,sv,sw,  zaE,zbu,Nat.reduceAdd,zav,zaK,zbo]) (by simp only [zaA,zbr,sr,su,sv,sw,  za2,zaU,zaS]) ?_;have S:=S.f2;refine S.cV [vi iJ,vi jY.2] [vi iJ,vi jY.2] rfl rfl (ag rfl (ag rfl rfl)) (zaa rfl) rfl (fun h S=>?_);refine S.eA [vi iJ,vi jY.2] 0 rfl rfl rfl (by decide) ?_;cases M;exact H _ _  S.bO
 · have M:=aX hc M;have S:=S.f3.f3.f3.t3;exact aG8 M S aH aG aS QB QC H
theorem aHa {w0 c g h E R r N v2 aK}  (M:Xb N v2=some r)(S:Sep c g h [.bx aK [vi v2.cR,vi v2.bG]])   (H:lu c R r):Za w0 E R (ak aK 0) h:=by
 unfold Za;unfold Xb at M;refine(CJ (l:=[vi 0,vi 0]) rfl).2 ?_;refine S.cV [vi 0,vi 0] [vi 0,vi 0] rfl rfl (ag rfl (ag rfl rfl)) (zaa rfl) rfl (fun h S=>?_);refine S.eA [vi 0,vi 0] 0 rfl rfl rfl (by decide) ?_;cases M;exact H _ _  S.bO
theorem arB {w0 c g h E R r N v4 v2 dP bA aK}  (M:Qn N v4 v2 dP=some r)(S:Sep c g h [.bx bA [vi v4.cR,vi v4.bG],.bx aK [vi v2.cR,vi v2.bG]])   (H:lu c R r):Zb w0 E R (ak bA 0) (ak aK 0) (.bool dP) h:=by
 unfold Zb;unfold Qn at M;refine bR (fun hc=>?_) (fun hc=>?_)
 · have M:=aV hc M;refine S.eA [vi v4.cR,vi v4.bG] 0 rfl rfl rfl (by decide) ?_;have S:=S.f1;refine S.cV [vi v4.cR,vi v4.bG] [vi v4.cR,vi v4.bG] rfl rfl (ag rfl (ag rfl rfl)) (zaa rfl) rfl (fun h S=>?_);refine S.eA [vi v4.cR,vi v4.bG] 0 rfl rfl rfl (by decide) ?_;cases M;exact H _ _  S.bO
 · have M:=aX hc M;have S:=S.f1.t1;exact aHa M S  H
theorem arC {w0 c g h E R r N v1 v4 v2 eO av aA az aR bA aK}  (M:Qo N v1 v4 v2 eO=some r)(S:Sep c g h [.bx av (ZZB v1 aA az aR),.bx bA [vi v4.cR,vi v4.bG],.bx aK [vi v2.cR,vi v2.bG]])(aH:aa aZ.rep 4 g aA v1.bE)(aG:aa bD.rep 4 g az v1.bw)(aS:aa ae.rep 7 g aR v1.bp)  (H:lu c R r):Zc w0 E R (ak av 0) (ak bA 0) (ak aK 0) (.bool eO) h:=by
 unfold Zc;unfold Qo at M;cases hc:eO
 · have M:=aX hc M;refine au rfl (aQ.2 (au rfl (S.aP 0 rfl rfl (au rfl (aQ.2 (au rfl (S.aP 0 rfl rfl (au rfl ?_))))))));obtain⟨P0,agY,M⟩:=bind_some M;refine aa.idx aH agY (fun aGo aGp vs aLX aHb rp=>?_);obtain⟨aLY,aLZ,rfl,aL0,aHc⟩:=rp;refine au rfl (aQ.2 (au rfl (S.dK (aHb 2 _ rfl) (au rfl (aQ.2 (au rfl (S.aP 0 rfl rfl (au rfl ?_))))))));obtain⟨zr,GH,M⟩:=bind_some M;refine aa.idx aHc GH (fun aL1 aL2 vs aL3 aHd rp=>?_);cases rp;refine au rfl (S.dK (aHd 0 _ rfl) (au rfl (fj.2 (aW.2 ?_))));have S:=S.f2.f2.t2;exact arB M S  H
 · have M:=aV hc M;repeat refine ax (by decide) ?_;refine aW.2 ?_;have S:=S.f2.f2.t2;exact arB M S  H
theorem arD {w0 c g h E R r N v1 v4 v2 ct av aA az aR bA aK}  (M:Qp N v1 v4 v2 ct=some r)(S:Sep c g h [.bx av (ZZB v1 aA az aR),.bx bA [vi v4.cR,vi v4.bG],.bx aK [vi v2.cR,vi v2.bG]])(aH:aa aZ.rep 4 g aA v1.bE)(aG:aa bD.rep 4 g az v1.bw)(aS:aa ae.rep 7 g aR v1.bp)  (H:lu c R r):Zd w0 E R (ak av 0) (ak bA 0) (ak aK 0) (.bool ct) h:=by
 unfold Zd;unfold Qp at M;cases hc:ct
 · have M:=aX hc M;refine au rfl (aQ.2 (au rfl (S.aP 0 rfl rfl (au rfl (aQ.2 (au rfl (S.aP 0 rfl rfl (au rfl ?_))))))));obtain⟨j8,F9,M⟩:=bind_some M;refine aa.idx aG F9 (fun aps apt vs aL4 aHe rp=>?_);cases rp;refine au rfl (S.iX aHe rfl (by decide) (au rfl ?_));obtain⟨GL,O1,M⟩:=bind_some M;refine aF2 O1 S.sub S.ok (fun _ h  S1  =>?_);have S:=S.dz S1;refine au rfl (dZ.2 (aW.2 ?_));exact arC M S aH aG aS H
 · have M:=aV hc M;repeat refine ax (by decide) ?_;refine aW.2 ?_;exact arC M S aH aG aS H
theorem aHf {w0 c g h E R r N v1 v4 v2 av aA az aR bA aK}  (M:Qq N v1 v4 v2=some r)(S:Sep c g h [.bx av (ZZB v1 aA az aR),.bx bA [vi v4.cR,vi v4.bG],.bx aK [vi v2.cR,vi v2.bG]])(aH:aa aZ.rep 4 g aA v1.bE)(aG:aa bD.rep 4 g az v1.bw)(aS:aa ae.rep 7 g aR v1.bp)  (H:lu c R r):Ze w0 E R (ak av 0) (ak bA 0) (ak aK 0) h:=by
 unfold Ze;unfold Qq at M;refine aQ.2 (S.aP 0 rfl rfl (aQ.2 (S.aP 0 rfl rfl (aH.len (lB.2 ?_)))));obtain⟨JM,agj,M⟩:=bind_some M;refine mJ agj S.sub S.ok (fun _ h  S1  =>?_);have S:=S.dz S1;refine dZ.2 ?_;cases hc:(!JM)
 · have M:=aX hc M;refine au rfl (aQ.2 (au rfl (S.aP 0 rfl rfl (au rfl (aQ.2 (au rfl (S.aP 0 rfl rfl (au rfl (aG.len (au rfl (lB.2 (au rfl ?_))))))))))));obtain⟨Dr,JF,M⟩:=bind_some M;refine mJ JF S.sub S.ok (fun _ h  S1  =>?_);have S:=S.dz S1;refine au rfl (dZ.2 (aW.2 ?_));exact arD M S aH aG aS H
 · have M:=aV hc M;repeat refine ax (by decide) ?_;refine aW.2 ?_;exact arD M S aH aG aS H
theorem aHg {w0 c g h E R r N v53 bS v1 v2 v4 iJ jj av aA az aR aK bA th uA Ef}(M:Ea N v53 bS v1 v2 v4 iJ uA=some r)(S:Sep c g h [.bx av (ZZB v1 aA az aR),.bx aK [vi v2.cR,vi v2.bG],.bx bA [vi v4.cR,vi v4.bG]])(j9:aa ae.rep 7 g jj bS)(aH:aa aZ.rep 4 g aA v1.bE)(aG:aa bD.rep 4 g az v1.bw)(aS:aa ae.rep 7 g aR v1.bp)(QB:Sub Ef g)(QC:∀{ar:Int}{g2 h2:AH},uA ar=some r→Sub Ef g2→Sep c g2 h2 [.bx av (ZZB v1 aA az aR),.bx aK [vi v2.cR,vi v2.bG],.bx bA [vi v4.cR,vi v4.bG]]→th (vi ar) h2)(H:lu c R r):RS w0 E R (vi v53) jj (ak av 0) (ak aK 0) (ak bA 0) th (vi iJ) h:=by
 unfold RS;unfold Ea at M;refine fj.2 (bR (fun hc=>?_) (fun hc=>?_))
 · have M:=aV hc M;exact aG9 M S j9 aH aG aS QB QC H
 · have M:=aX hc M;have S:=S.f1.f2.f2;exact aHf M S aH aG aS H
theorem aHh {w0 c E R r N v53 bS v1 v2 v4 jj av aA az aR aK bA}   (H:lu c R r):∀(n:Nat){iJ:Int}{g h:AH},Kc N v53 bS v1 v2 v4 n iJ=some r→Sep c g h [.bx av (ZZB v1 aA az aR),.bx aK [vi v2.cR,vi v2.bG],.bx bA [vi v4.cR,vi v4.bG]]→aa ae.rep 7 g jj bS→aa aZ.rep 4 g aA v1.bE→aa bD.rep 4 g az v1.bw→aa ae.rep 7 g aR v1.bp→gg (α:=Z) (fun k a=>RS w0 E R (vi v53) jj (ak av 0) (ak aK 0) (ak bA 0) k a) n (vi iJ) h:=by
 intro n
 induction n with
 | zero=>
  intro iJ  g h M S j9 aH aG aS ;unfold Kc at M;cases M
 | succ n ih=>
  intro iJ  g h M S j9 aH aG aS ;exact aHg M S j9 aH aG aS  (Sub.refl g) (fun M2 sub S2  =>ih M2 S2 (aa.mono j9 ae.mono sub) (aa.mono aH aZ.mono sub) (aa.mono aG bD.mono sub) (aa.mono aS ae.mono sub)) H
theorem aHi {w0 c g h E R r N v1 v2 v4 av aA az aR aK bA}  (M:Qr N v1 v2 v4=some r)(S:Sep c g h [.bx av (ZZB v1 aA az aR),.bx aK [vi v2.cR,vi v2.bG],.bx bA [vi v4.cR,vi v4.bG]])(aH:aa aZ.rep 4 g aA v1.bE)(aG:aa bD.rep 4 g az v1.bw)(aS:aa ae.rep 7 g aR v1.bp)  (H:lu c R r):Zh w0 E R (ak av 0) (ak aK 0) (ak bA 0) h:=by
 unfold Zh;unfold Qr at M;refine aQ.2 (S.aP 0 rfl rfl (aS.len ?_));exact⟨N,aHh  H _ M S aS aH aG aS⟩
theorem aHj {w0 c g h E R r N eB v1 v2 v4 iK av aA az aR aK bA ti uy Ee}(M:Eb N eB v1 v2 v4 iK uy=some r)(S:Sep c g h [.bx av (ZZB v1 aA az aR),.bx aK [vi v2.cR,vi v2.bG],.bx bA [vi v4.cR,vi v4.bG]])(aH:aa aZ.rep 4 g aA v1.bE)(aG:aa bD.rep 4 g az v1.bw)(aS:aa ae.rep 7 g aR v1.bp)(Qy:Sub Ee g)(Qz:∀{ar:Int}{g2 h2:AH},uy ar=some r→Sub Ee g2→Sep c g2 h2 [.bx av (ZZB v1 aA az aR),.bx aK [vi v2.cR,vi v2.bG],.bx bA [vi v4.cR,vi v4.bG]]→ti (vi ar) h2)(H:lu c R r):RT w0 E R (vi eB) (ak av 0) (ak aK 0) (ak bA 0) ti (vi iK) h:=by
 unfold RT;unfold Eb at M;refine fj.2 (bR (fun hc=>?_) (fun hc=>?_))
 · have M:=aV hc M;exact aG7 M S aH aG aS Qy Qz H
 · have M:=aX hc M;exact aHi M S aH aG aS H
theorem aHk {w0 c E R r N eB v1 v2 v4 av aA az aR aK bA}   (H:lu c R r):∀(n:Nat){iK:Int}{g h:AH},Kd N eB v1 v2 v4 n iK=some r→Sep c g h [.bx av (ZZB v1 aA az aR),.bx aK [vi v2.cR,vi v2.bG],.bx bA [vi v4.cR,vi v4.bG]]→aa aZ.rep 4 g aA v1.bE→aa bD.rep 4 g az v1.bw→aa ae.rep 7 g aR v1.bp→gg (α:=Z) (fun k a=>RT w0 E R (vi eB) (ak av 0) (ak aK 0) (ak bA 0) k a) n (vi iK) h:=by
 intro n
 induction n with
 | zero=>
  intro iK  g h M S aH aG aS ;unfold Kd at M;cases M
 | succ n ih=>
  intro iK  g h M S aH aG aS ;exact aHj M S aH aG aS  (Sub.refl g) (fun M2 sub S2  =>ih M2 S2 (aa.mono aH aZ.mono sub) (aa.mono aG bD.mono sub) (aa.mono aS ae.mono sub)) H
theorem aHl {w0 c g h E R r N v1 v2 v4 av aA az aR aK bA}  (M:Qs N v1 v2 v4=some r)(S:Sep c g h [.bx av (ZZB v1 aA az aR),.bx aK [vi v2.cR,vi v2.bG],.bx bA [vi v4.cR,vi v4.bG]])(aH:aa aZ.rep 4 g aA v1.bE)(aG:aa bD.rep 4 g az v1.bw)(aS:aa ae.rep 7 g aR v1.bp)  (H:lu c R r):Zk w0 E R (ak av 0) (ak aK 0) (ak bA 0) h:=by
 unfold Zk;unfold Qs at M;refine aQ.2 (S.aP 0 rfl rfl (aH.len ?_));exact⟨N,aHk  H _ M S aH aG aS⟩
theorem aHm {w0 c g h E R r N kM v85 v2 v1 v4 eH Ed aK av aA az aR bA l9 lY uB}(M:Ec N kM v85 v2 v1 v4 eH lY=some r)(S:Sep c g h [.bx aK [vi v2.cR,vi v2.bG],.bx av (ZZB v1 aA az aR),.bx bA [vi v4.cR,vi v4.bG]])(Ha:aa bD.rep 4 g Ed v85)(aH:aa aZ.rep 4 g aA v1.bE)(aG:aa bD.rep 4 g az v1.bw)(aS:aa ae.rep 7 g aR v1.bp)(zK:Sub uB g)(zL:∀{ar:Int}{g2 h2:AH},lY ar=some r→Sub uB g2→Sep c g2 h2 [.bx aK [vi v2.cR,vi v2.bG],.bx av (ZZB v1 aA az aR),.bx bA [vi v4.cR,vi v4.bG]]→l9 (vi ar) h2)(H:lu c R r):RU w0 E R (vi kM) Ed (ak aK 0) (ak av 0) (ak bA 0) l9 (vi eH) h:=by
 unfold RU;unfold Ec at M;refine fj.2 (bR (fun hc=>?_) (fun hc=>?_))
 · have M:=aV hc M;exact aG5 M S Ha aH aG aS zK zL H
 · have M:=aX hc M;have S:=S.f2.f1.f2;exact aHl M S aH aG aS H
theorem aHn {w0 c E R r N kM v85 v2 v1 v4 Ed aK av aA az aR bA}   (H:lu c R r):∀(n:Nat){eH:Int}{g h:AH},Ke N kM v85 v2 v1 v4 n eH=some r→Sep c g h [.bx aK [vi v2.cR,vi v2.bG],.bx av (ZZB v1 aA az aR),.bx bA [vi v4.cR,vi v4.bG]]→aa bD.rep 4 g Ed v85→aa aZ.rep 4 g aA v1.bE→aa bD.rep 4 g az v1.bw→aa ae.rep 7 g aR v1.bp→gg (α:=Z) (fun k a=>RU w0 E R (vi kM) Ed (ak aK 0) (ak av 0) (ak bA 0) k a) n (vi eH) h:=by
 intro n
 induction n with
 | zero=>
  intro eH  g h M S Ha aH aG aS ;unfold Ke at M;cases M
 | succ n ih=>
  intro eH  g h M S Ha aH aG aS ;exact aHm M S Ha aH aG aS  (Sub.refl g) (fun M2 sub S2  =>ih M2 S2 (aa.mono Ha bD.mono sub) (aa.mono aH aZ.mono sub) (aa.mono aG bD.mono sub) (aa.mono aS ae.mono sub)) H
theorem aHo {w0 c g h E R r N v1 v2 v4 av aA az aR aK bA}  (M:Xc N v1 v2 v4=some r)(S:Sep c g h [.bx av (ZZB v1 aA az aR),.bx aK [vi v2.cR,vi v2.bG],.bx bA [vi v4.cR,vi v4.bG]])(aH:aa aZ.rep 4 g aA v1.bE)(aG:aa bD.rep 4 g az v1.bw)(aS:aa ae.rep 7 g aR v1.bp)  (H:lu c R r):Zp w0 E R (ak av 0) (ak aK 0) (ak bA 0) h:=by
 unfold Zp;unfold Xc at M;refine aQ.2 (S.aP 0 rfl rfl (aG.len ?_));have S:=S.f2.f1.f2;exact⟨N,aHn  H _ M S aG aH aG aS⟩
theorem arE {w0 c g h E R r N v4 v2 v1 tf bA aK av aA az aR}  (M:Qt N v4 v2 v1 tf=some r)(S:Sep c g h [.bx bA [vi v4.cR,vi v4.bG],.bx aK [vi v2.cR,vi v2.bG],.bx av (ZZB v1 aA az aR)])(aH:aa aZ.rep 4 g aA v1.bE)(aG:aa bD.rep 4 g az v1.bw)(aS:aa ae.rep 7 g aR v1.bp)  (H:lu c R r):Zq w0 E R (ak bA 0) (ak aK 0) (ak av 0) (.bool tf) h:=by
 unfold Zq;unfold Qt at M;refine bR (fun hc=>?_) (fun hc=>?_)
 · have M:=aV hc M;refine S.eA [vi v4.cR,vi v4.bG] 0 rfl rfl rfl (by decide) ?_;have S:=S.f1;refine S.cV [vi v4.cR,vi v4.bG] [vi v4.cR,vi v4.bG] rfl rfl (ag rfl (ag rfl rfl)) (zaa rfl) rfl (fun h S=>?_);refine S.eA [vi v4.cR,vi v4.bG] 0 rfl rfl rfl (by decide) ?_;cases M;exact H _ _  S.bO
 · have M:=aX hc M;have S:=S.f1.f2;exact aHo M S aH aG aS H
theorem aHp {w0 c g h E R r N v1 v4 v2 av aA az aR bA aK}  (M:Xd N v1 v4 v2=some r)(S:Sep c g h [.bx av (ZZB v1 aA az aR),.bx bA [vi v4.cR,vi v4.bG],.bx aK [vi v2.cR,vi v2.bG]])(aH:aa aZ.rep 4 g aA v1.bE)(aG:aa bD.rep 4 g az v1.bw)(aS:aa ae.rep 7 g aR v1.bp)  (H:lu c R r):Zr w0 E R (ak av 0) (ak bA 0) (ak aK 0) h:=by
 unfold Zr;unfold Xd at M;refine aQ.2 (S.aP 0 rfl rfl (aH.len (gr.2 ?_)));cases hc:(decide ((v1.bE.length:Int)=0))
 · have M:=aX hc M;refine au rfl (aQ.2 (au rfl (S.aP 0 rfl rfl (au rfl (aS.len (au rfl (gr.2 (aW.2 ?_))))))));have S:=S.f2.f2;exact arE M S aH aG aS H
 · have M:=aV hc M;repeat refine ax (by decide) ?_;refine aW.2 ?_;have S:=S.f2.f2;exact arE M S aH aG aS H
theorem arF {w0 c g h E R r N v4 v2 v1 v139 bA aK av aA az aR}  (M:Qu N v4 v2 v1 v139=some r)(S:Sep c g h [.bx bA [vi v4.cR,vi v4.bG],.bx aK [vi v2.cR,vi v2.bG],.bx av (ZZB v1 aA az aR)])(aH:aa aZ.rep 4 g aA v1.bE)(aG:aa bD.rep 4 g az v1.bw)(aS:aa ae.rep 7 g aR v1.bp)  (H:lu c R r):Zs w0 E R (ak bA 0) (ak aK 0) (ak av 0) (.bool v139) h:=by
 unfold Zs;unfold Qu at M;refine bR (fun hc=>?_) (fun hc=>?_)
 · have M:=aV hc M;refine S.eA [vi v4.cR,vi v4.bG] 0 rfl rfl rfl (by decide) ?_;have S:=S.f1;refine S.cV [vi v4.cR,vi v4.bG] [vi v4.cR,vi v4.bG] rfl rfl (ag rfl (ag rfl rfl)) (zaa rfl) rfl (fun h S=>?_);refine S.eA [vi v4.cR,vi v4.bG] 0 rfl rfl rfl (by decide) ?_;cases M;exact H _ _  S.bO
 · have M:=aX hc M;have S:=S.f1.f1.f2;exact aHp M S aH aG aS H
theorem arG {w0 c g h E R r N v1 v4 v2 nC av aA az aR bA aK}  (M:Qv N v1 v4 v2 nC=some r)(S:Sep c g h [.bx av (ZZB v1 aA az aR),.bx bA [vi v4.cR,vi v4.bG],.bx aK [vi v2.cR,vi v2.bG]])(aH:aa aZ.rep 4 g aA v1.bE)(aG:aa bD.rep 4 g az v1.bw)(aS:aa ae.rep 7 g aR v1.bp)  (H:lu c R r):Zt w0 E R (ak av 0) (ak bA 0) (ak aK 0) (.bool nC) h:=by
 unfold Zt;unfold Qv at M;cases hc:nC
 · have M:=aX hc M;refine au rfl (aQ.2 (au rfl (S.aP 0 rfl rfl (au rfl (aS.len (au rfl (kT.2 (aW.2 ?_))))))));have S:=S.f2.f2;exact arF M S aH aG aS H
 · have M:=aV hc M;repeat refine ax (by decide) ?_;refine aW.2 ?_;have S:=S.f2.f2;exact arF M S aH aG aS H
theorem aAU {w0 g h Q r N x0 cw cx iY}(M:Nj N x0=some r)(sg:Sub g h)(ok:h.Ok)(cg:aa aZ.rep 4 g cw x0.bE)(cz:aa bD.rep 4 g cx x0.bw)(jF:aa ae.rep 7 g iY x0.bp)(H:lu ⟨g,h,[]⟩ (fun v=>Q (.ret v)) r):WF PP w0 Zu [(.agg ⟨(ZZB x0 cw cx iY)⟩)] h Q:=by
 refine atJ _ ?_;have S:=Sep.start sg ok;unfold aix;unfold Nj at M;refine S.box (ZZB x0 cw cx iY) rfl (ag cg.one (ag cz.one (ag jF.one (ag rfl (ag rfl rfl))))) (fun jN h S=>?_);refine S.alloc (l:=[vi 0,vi 0]) (ag rfl (ag rfl rfl)) (fun sE h S=>?_);refine(CJ (l:=[(vi (-1)),vi 0]) (rn (m:=[(vi (-1))]) (l2:=[(vi (-1)),vi 0]) rfl rfl (zaa rfl) rfl rfl)).2 ?_;refine S.alloc (l:=[vi 0,vi 0]) (ag rfl (ag rfl rfl)) (fun vo h S=>?_);refine S.cV [(vi (-1)),vi 0] [(vi (-1)),vi 0] rfl rfl (ag rfl (ag rfl rfl)) (zaa rfl) rfl (fun h S=>?_);refine aQ.2 (S.aP 2 rfl rfl (cg.len (kT.2 ?_)));cases hc:(decide (60<(x0.bE.length:Int)))
 · have M:=aX hc M;refine au rfl (aQ.2 (au rfl (S.aP 2 rfl rfl (au rfl (cz.len (au rfl (kT.2 (aW.2 ?_))))))));have S:=S.f1.f1.f2;exact arG M S cg cz jF H
 · have M:=aV hc M;repeat refine ax (by decide) ?_;refine aW.2 ?_;have S:=S.f1.f1.f2;exact arG M S cg cz jF H
end
end Go.Ve.T
