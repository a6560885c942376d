/- Part 17: The list of a set: its numbers in order, however the map is gone through. Condition: of the model (at most 1048576 numbers). And what follows it. -/
import Derived.Test.YteeibihhdldjfaaGreatDoorVeP
import Derived.Shelf.Slices.In.SortNone
set_option linter.unusedVariables false
set_option linter.unusedSimpArgs false
namespace Go.Ve
open Go.RowKit Go.Sort
open Classical
noncomputable section
section
variable {c:Cx}{g h:AH}{Γ:List Ob}
theorem ahR:∀{ls:List (List Value)}{xs:List Int}{g:AH},ah (rI .i64 g) ls xs→ls=xs.map fun x=>[vi x]
 | [],[],_,_=>rfl
 | [],_::_,_,A=>by have:=A.1;simp at this
 | _::_,[],_,A=>by have:=A.1;simp at this
 | a::ls,x::xs,g,A=>by
  have h1:a=[vi x]:=A.2 0 a x rfl rfl
  rw [h1,List.map_cons,ahR (⟨by simpa using A.1,fun i p q hp hq=>A.2 (i+1) p q (by simpa using hp) (by simpa using hq)⟩:ah (rI .i64 g) ls xs)]
theorem YH (xs:List Int):(xs.map fun x=>[vi x]).flatten=xs.map vi:=by
 induction xs with
 | nil=>rfl
 | cons x xs ih=>simp [ih]
theorem av6 (g:AH) (xs:List Int):ah (rI .i64 g) (xs.map fun x=>[vi x]) xs:=⟨by simp,fun i a b ha hb=>by
 rw [List.getElem?_map,hb]at ha
 cases ha;rfl⟩
theorem Sep.sort {P:Program}{w0:World}{f:FuncId}{Q:CR→AH→Prop}(iz:Can P f) (hS0:∀p cap w,Calls P f #[.slice p 0 cap] w fun e w'=>e= .returned (.tuple #[])∧w'=w)
 (hS:∀(bN off cap:Nat) (zs:List Int) (w:World),Holds (Value.int .i64) w bN off zs.toArray→bN<w.heap.size→zs.length<4611686018427387904→
  Calls P f #[.slice (some ⟨bN,off,none⟩) zs.length cap] w fun e w'=>e= .returned (.tuple #[])∧∃n os,w'=grow (putRow (Value.int .i64) (Sort.ahead w n) bN off (gH zs).toArray) os)
 {ty:TypeId}{v:Value}{ls:List (List Value)}{xs:List Int}(S:Sep c g h (.sl ty 1 v ls::Γ)) (A:ah (rI .i64 g) ls xs) (Fa:xs=[]→v=cg) (hlen:xs.length≤1048576)
 (K:∀h' vn,Sep c g h' (.sl ty 1 v vn::Γ)→ah (rI .i64 g) vn (gH xs)→Q (.ret (.tuple ⟨[]⟩)) h'):WF P w0 f [v] h Q:=by
 by_cases hx:xs=[]
 · subst hx
   obtain rfl:=Fa rfl
   exact av7 iz hS0 (K h ls S (by rw [show gH []=[]from List.mergeSort_nil];exact A))
 · have Yx:=ahR A
   have YI:(gH xs).Perm xs:=List.mergeSort_perm xs _
   have pv:(gH xs).length=xs.length:=YI.length_eq
   have O:eZ h ty 1 v ls:=S.eG _ List.mem_cons_self
   have get:∀{b lo hi:Nat}{cJ:TypeId}{cc:NT Value}{o:Nat},h.ob.get b=some (.cells lo hi cJ true cc)→(h.wr b o ((gH xs).map vi)).ob.get b=some (.cells lo hi cJ true (kL cc o ((gH xs).map vi))):=fun hg=>by
    unfold AH.wr;rw [hg];simp only [NT.eK,if_true]
   have bE:∀{b lo hi:Nat}{cJ:TypeId}{cc:NT Value}{o:Nat},h.ob.get b=some (.cells lo hi cJ true cc)→lo≤o→o+xs.length≤hi→(h.wr b o ((gH xs).map vi)).bE b o ((gH xs).map vi):=fun hg h1 h2 i u hu=>by
    have dK:i<(gH xs).length:=by simpa using (List.getElem?_eq_some_iff.1 hu).1
    rw [AH.wT (n:=xs.length) ⟨_,_,_,_,hg,h1,h2⟩ (by simp [pv]),if_pos ⟨rfl,by omega,by rw [List.length_map];omega⟩,Nat.add_sub_cancel_left]
    exact hu
   have fin:∀(b lo hi:Nat) (cJ:TypeId) (cc:NT Value) (o n:Nat),v=eR b o xs.length n→h.ob.get b=some (.cells lo hi cJ true cc)→lo≤o→o+xs.length≤hi→h.bE b o ls.flatten→
    eZ (h.wr b o ((gH xs).map vi)) ty 1 v ((gH xs).map fun x=>[vi x])→WF P w0 f [v] h Q:=fun b lo hi cJ cc o n hv hg h1 h2 hr O'=>by
    subst hv
    refine av8 iz hS hx hlen hg h1 h2 (by rw [Yx,YH]at hr;exact hr) (K _ _ (S.change (.sl ty 1 _ _) (AH.uV S.ok _ _ _) (by rw [AH.nb];exact Nat.le_refl _) (fun f _ hf=>AH.wS h (fun e=>hf (by subst e;simp [Ob.bN,fa]))) O' xf (fun b' cG=> ?_)) (av6 g _))
    have cG:b'=b:=by simpa [Ob.bN,fa]using cG
    subst cG
    exact⟨by rw [AH.nb];exact AH.lt_of_get S.ok hg,.inr (by simp [Ob.bN,fa])⟩
   have pa:ls.length=xs.length:=A.1
   cases O with
   | nil=>exact absurd (List.length_eq_zero_iff.1 pa.symm) hx
   | un b o n lo hi cc _ hn hb hg h1 h2 hr hs =>
    rw [pa]at hn
    subst hn
    refine fin _ _ _ _ _ _ _ rfl hg h1 (by omega) hr (.un b o _ lo hi _ _ (by simp [pv]) hb (get hg) h1 h2 (by rw [YH];exact bE hg h1 (by omega)) (fun x hx=> ?_))
    obtain⟨y,_,rfl⟩:=List.mem_map.1 hx;rfl
   | kn b o n cap lo hi cJ cc _ hn hb hc hg h1 h2 hr hs =>
    rw [pa]at hn
    subst hn
    refine fin _ _ _ _ _ _ _ rfl hg h1 (by omega) hr (.kn b o _ cap lo hi cJ _ _ (by simp [pv]) hb hc (get hg) h1 h2 (by rw [YH];exact bE hg h1 (by omega)) (fun x hx=> ?_))
    obtain⟨y,_,rfl⟩:=List.mem_map.1 hx;rfl
end
namespace T
open Go.Proofs
theorem av9:Can PP Zr:=⟨_,Tryz.func107,by kernel_rfl,by kernel_rfl⟩
def DP (x0:List Int):Option (List Int):=gu (decide (x0.length≤1048576)) (some x0)
theorem au0 {w0:World}{g h:AH}{Q:CR→AH→Prop}{r x0:List Int}{bI:Value}(M:DP x0=some r) (sg:Sub g h) (ok:h.Ok) (cw:jZ g bI x0)
 (H:∀(g' h':AH) (w1:Value),Sep ⟨g,h,[]⟩ g' h' []→ab (rI .i64) 1 g' w1 r→Q (.ret w1) h'):WF PP w0 Jv [bI] h Q:=by
 obtain⟨hlen,M⟩:=mo M
 have e:=Option.some.inj M
 subst e
 have hlen:=of_decide_eq_true hlen
 refine aiB _ ?_
 unfold Zs
 have S:=Sep.start sg ok
 refine Sep.range (S.zW 3 1) cw (fun it k a=>rfl) (fun xs a g1 Γ1=>∃ls,Γ1=[.sl 3 1 a ls]∧ah (rI .i64 g1) ls xs∧(xs=[]→a=cg)∧xs.Nodup∧∀y∈xs,y∈x0) ⟨[],rfl,.nil,fun _=>rfl,.nil,fun y hy=>by simp at hy⟩ ?_ ?_
 · intro it o k a g1 h1 Γ1 xs x hI qJ hx kG S1 hE kk
   obtain⟨ls,rfl,A,hn,nd,ar⟩:=hI
   have bJ:xs.length+1≤x0.length:=aer (l:=x::xs) (List.nodup_cons.2 ⟨kG,nd⟩) cw.nV.nd (fun y hy=>by
    rcases List.mem_cons.1 hy with rfl | hy
    · exact hx
    · exact ar y hy)
   show WP (.x .entry) [it] h1 _
   refine hE _ ?_
   refine(eY rfl).2 ?_
   refine S1.qy [[vi x]] (de (m:=[vi x]) (l2:=[vi x]) rfl rfl (Nat.le_of_ble_eq_true rfl) rfl rfl) rfl (by decide) (tj rfl qA) (aa rfl rfl) (fun v h S=> ?_)
   have A1:ah ((rI .i64) g1) [[vi x]] [x]:=ah.push ah.nil (show(rI .i64) g1 [vi x] x from rfl)
   have S:=S.f2
   refine S.app (S.rd 1 rfl) (by rw [A.1,A1.1];exact decide_eq_true (by simp;omega)) (by decide) rfl (la (l3 .i64) A1) (la (l3 .i64) A) (fun v' h S=> ?_)
   have S:=S.f2
   have S:=S.t2
   exact kk v' g1 h _ (.refl _) S ⟨_,rfl,A.append A1,fun h=>by simp at h,List.nodup_append.2 ⟨nd,by simp,fun p hp q hq e=>by simp at hq;subst hq;subst e;exact kG hp⟩,fun y hy=>by
    rcases List.mem_append.1 hy with hy | hy
    · exact ar y hy
    · simp at hy;subst hy;exact hx⟩
 · intro it a g1 h1 Γ1 xs qJ hp hI S1
   obtain⟨ls,rfl,A,hn,nd,ar⟩:=hI
   refine S1.sort av9 (fun p cap w=>Any.slices_Sort_int_none aeb p cap w) (fun bN off cap zs w=>Any.slices_Sort_int aeb bN off cap zs w) A hn (by rw [hp.length_eq];exact hlen) fun h' vn S2 A2=> ?_
   rw [awa cw.nV hp]at A2
   obtain⟨g2,rz,S3,F⟩:=S2.fz A2 (du .i64)
   exact H g2 h' a S3 F
end T
end
end Go.Ve
namespace Go.Ve.T
open Go.Ve Go.Proofs
noncomputable section
def nw (w tO:Int) (t:List Int):List Int:=t.filter fun n=>decide (tO=2)|| !decide (n=w)
def IW (x2:List (List Int)) (i:aq) (s:List Int) (x:Int×Int):Option (List Int×Fl) :=
 (ix x2 x.1).bind fun t=>(Dg i).bind fun w=>some (fS (nw w x.2 t) s,.go)
def IQ (N:Nat) (x0:ak) (x1:Int) (x2:List (List Int)):Option (List Int) :=
 (Bg N x0 x1).bind fun l=>(ix x0.ae x1).bind fun i=>(qB (IW x2 i) l []).bind fun q=>(Hn N i).bind fun rs =>
 gu (decide (rs.length≤1000)) (match q.2 with
  | .go=>some (fS rs q.1)
  | _=>none)
section
variable {w0:World}{c:Cx}{g h:AH}
theorem avd {E R:Value→W}{b5 mb:Nat}{d:List Nat}{w:Value}{rs r:List Int}(r5:g.bE b5 0 [.map (some mb)]) (F:ab (rI .i64) 1 g w rs) (hl:rs.length≤1000)
 (H:∀(g' h':AH) (w1:Value),Sep c g' h' []→jZ g' w1 r→R w1 h') :
 ∀(m i:Nat){h:AH}{es:List (Value×Value×Nat)}{cl:Nat}{s:List Int},m+i=rs.length→fS (rs.drop i) s=r→Sep c g h [.ds d,.mp mb es cl]→lJ es cl s→
  eS (α:=(Value)×List Nat) (fun k a=>yL w0 E R (vi (rs.length:Int)) w (au b5 0) (fun b0 q=>k ((b0),q)) a.1 a.2) (m+1) (vi (i:Int),d) h:=by
 intro m
 induction m with
 | zero =>
  intro i h es cl s hm hr S A
  have hi:i=rs.length:=by omega
  subst hi
  rw [List.drop_length]at hr
  have hr:s=r:=hr
  subst hr
  show yL w0 E R (vi (rs.length:Int)) w (au b5 0) _ (vi (rs.length:Int)) d h
  unfold yL
  refine eF.2 ?_
  rw [decide_eq_false (by omega)]
  refine oE ?_
  unfold PB
  refine S.eH (r5 0 _ rfl) ?_
  refine S.nB (fun h S=> ?_)
  obtain⟨g',sg,S,M⟩:=S.aop A
  exact H _ _ _ S M
 | succ m ih =>
  intro i h es cl s hm hr S A
  have hi:i<rs.length:=by omega
  show yL w0 E R (vi (rs.length:Int)) w (au b5 0) _ (vi (i:Int)) d h
  unfold yL
  refine eF.2 ?_
  rw [decide_eq_true (by omega)]
  refine vm ?_
  unfold PD
  have hx:ix rs (i:Int)=some rs[i]:=List.getElem?_eq_getElem hi
  refine ab.idx F hx (fun b o vs E2 rr rp=> ?_)
  cases rp
  refine S.eH (rr 0 _ rfl) ?_
  refine S.eH (r5 0 _ rfl) ?_
  have S:=S.f1
  refine S.aej A (fun es cl h S A=> ?_)
  have S:=S.f1
  unfold PC
  refine fF.2 ?_
  rw [jY (by omega) (by omega)]
  have:=ih (i+1) (by omega) (by rw [←hr,List.drop_eq_getElem_cons hi];rfl) S A
  exact this
end
theorem ave {x2:List (List Int)}{i:aq}{s s':List Int}{x:Int×Int}{f:Fl}(h:IW x2 i s x=some (s',f)):∃t w,ix x2 x.1=some t∧Dg i=some w∧s'=fS (nw w x.2 t) s∧f= .go:=by
 unfold IW at h
 obtain⟨t,h1,h⟩:=bind_some h
 obtain⟨w,h2,h⟩:=bind_some h
 cases h
 exact⟨t,w,h1,h2,rfl,rfl⟩
theorem avf (xs:List Int) (x:Int) (s:List Int):fS (xs++[x]) s=k9 x (fS xs s):=by simp [fS]
theorem auT {w0:World}{g h:AH}{Q:CR→AH→Prop}{r:List Int}{N:Nat}{x0:ak}{x1:Int}{x2:List (List Int)}{cU cV Yd:Value}(M:IQ N x0 x1 x2=some r) (sg:Sub g h) (ok:h.Ok) (cv:ab aq.rep 4 g cU x0.ae) (cZ:ab aK.rep 3 g cV x0.aM) (vK:ab jt 1 g Yd x2)
 (H:∀(g' h':AH) (w1:Value),Sep ⟨g,h,[]⟩ g' h' []→jZ g' w1 r→Q (.ret w1) h'):WF PP w0 PG [.agg ⟨DT x0 cU cV⟩,vi x1,Yd] h Q:=by
 unfold IQ at M
 obtain⟨l,hl,M⟩:=bind_some M
 obtain⟨i,hi,M⟩:=bind_some M
 obtain⟨q,hq,M⟩:=bind_some M
 obtain⟨rs,wA,M⟩:=bind_some M
 obtain⟨hlen,M⟩:=mo M
 have hlen:=of_decide_eq_true hlen
 refine aiD _ _ _ ?_
 have S:=Sep.start sg ok
 have S:Sep _ g h [.ds []]:=S.aeB
 unfold Zv
 refine S.box (DT x0 cU cV) rfl (aa rfl (aa rfl (aa rfl (aa rfl (aa rfl (aa cv.one (aa cZ.one rfl))))))) (fun b1 h S=> ?_)
 refine S.box [vi x1] rfl rfl (fun b2 h S=> ?_)
 refine S.box [Yd] (oA vK.one) (aa vK.one rfl) (fun b3 h S=> ?_)
 refine S.smk (fun mb h S A=> ?_)
 refine S.alloc (l:=[.map none]) rfl (fun b5 h S=> ?_)
 refine S.dv [.map (some mb)] [.map (some mb)] rfl rfl rfl (Nat.le_of_ble_eq_true rfl) rfl (fun h S=> ?_)
 obtain⟨g5,sg5,S,r5⟩:=S.th
 have S:=S.f1
 obtain⟨g3,IV,S,r3⟩:=S.th
 have S:=S.f1
 obtain⟨g2,rz,S,r2⟩:=S.th
 have S:=S.f1
 obtain⟨g1,qJ,S,r1⟩:=S.th
 have S:=S.f1
 have r5:=((IV.trans rz).trans qJ).bE r5
 have r3:=(rz.trans qJ).bE r3
 have r2:=qJ.bE r2
 have Ye:=((sg5.trans IV).trans rz).trans qJ
 have cv:=cv.mono aq.mono Ye
 have cZ:=cZ.mono aK.mono Ye
 have vK:=vK.mono vk Ye
 refine S.mq r1 rfl (by decide) ?_
 refine S.eH (r2 0 _ rfl) ?_
 refine agX N x0 x1 cU cV S.sub S.ok cv cZ hl (fun ga h v30 S1 It=> ?_)
 have Bk:=S1.bF
 have S:=S.pD S1
 have r1:=Bk.bE r1
 have r2:=Bk.bE r2
 have r3:=Bk.bE r3
 have r5:=Bk.bE r5
 have cv:=cv.mono aq.mono Bk
 have cZ:=cZ.mono aK.mono Bk
 have vK:=vK.mono vk Bk
 refine aeC (IW x2 i) (fun s g' h' Γ=>Sub ga g'∧∃es cl,Γ=[.mp mb es cl]∧lJ es cl s) It (fun s g h Γ g' h' hd sb=>⟨hd.1.trans sb,hd.2⟩) S ⟨.refl _,_,_,rfl,A⟩ hq ?_ ?_
 · intro lo n qq s x s' f R g2 h2 Γ2 sub S D1 bm kk
   obtain⟨qK,es,cl,rfl,A⟩:=D1
   obtain⟨t,w,ht,hw,rfl,rfl⟩:=ave bm
   have r1:=qK.bE r1
   have r2:=qK.bE r2
   have r3:=qK.bE r3
   have r5:=qK.bE r5
   have cv:=cv.mono aq.mono qK
   have vK:=vK.mono vk qK
   show PF w0 se R (au b3 0) (au b1 0) (au b2 0) (au b5 0) lo n (vi x.1) (vi x.2) h2
   unfold PF
   refine S.yE ?_
   refine S.qM (fun h S=> ?_)
   refine S.eH (r3 0 _ rfl) ?_
   refine ab.idx vK ht (fun b o vs E2 rr rp=> ?_)
   obtain⟨tv,rfl,tF⟩:=rp
   refine S.eH (rr 0 _ rfl) ?_
   have hs:=A.nV
   refine Sep.range S tF (fun it k a=>rfl) (fun xs _ gx Γ=>∃es cl,Γ=[.lp n lo .busy none,.ds (qq::[]),.mp mb es cl]∧lJ es cl (fS (nw w x.2 xs) s)) ⟨es,cl,rfl,A⟩ ?_ ?_
   · intro it o k a gx h1 Γ1 xs z hI yo hz hnz S1 hE kk2
     obtain⟨es,cl,rfl,A⟩:=hI
     show Jw w0 se R it (vi x.2) (au b1 0) (au b2 0) (au b5 0) (k ()) h1
     unfold Jw
     refine hE _ ?_
     refine(eY rfl).2 ?_
     refine cK.2 ?_
     have r1:=yo.bE r1
     have r2:=yo.bE r2
     have r5:=yo.bE r5
     have cv:=cv.mono aq.mono yo
     have take:∀bb:Bool,(decide (x.2=2)|| !decide (z=w))=bb→nw w x.2 (xs++[z])=nw w x.2 xs++(bif bb then [z]else []):=fun bb e=>by
      unfold nw
      rw [List.filter_append]
      congr 1
      rw [List.filter_cons,e]
      cases bb<;>rfl
     have put:∀{h2:AH},Sep ⟨g,_,[]⟩ gx h2 (o::[.lp n lo .busy none,.ds (qq::[]),.mp mb es cl])→(decide (x.2=2)|| !decide (z=w))=true→
      (pr (.aH) [au b5 0] fun l9=>pr (.sk 0) [l9,vi z,(.bool true)] fun kA=>k ()) h2:=fun S e=>by
      refine S.eH (r5 0 _ rfl) ?_
      have S:=S.f3
      refine S.aej A (fun es cl h S A=> ?_)
      have S:=S.f3
      have S:=S.f3
      have S:=S.f3
      refine kk2 () gx h _ (.refl _) S ⟨es,cl,rfl, ?_⟩
      rw [take true e,cond_true,avf];exact A
     cases h2:decide (x.2=2)with
     | true =>
      refine aA (by decide) ?_
      refine aA (by decide) ?_
      refine aA (by decide) ?_
      refine aA (by decide) ?_
      refine aA (by decide) ?_
      refine aA (by decide) ?_
      refine aA (by decide) ?_
      refine aA (by decide) ?_
      refine bf.2 ?_
      refine vm ?_
      exact put S1 (by rw [h2];rfl)
     | false =>
      refine ax rfl ?_
      refine ax rfl ?_
      refine bC.2 ?_
      refine ax rfl ?_
      refine S1.eH (r1 5 _ rfl) ?_
      refine ax rfl ?_
      refine S1.eH (r2 0 _ rfl) ?_
      refine ax rfl ?_
      refine ab.idx cv hi (fun b o2 vs E3 Yf rp=> ?_)
      cases rp
      refine ax rfl ?_
      refine S1.mq Yf rfl (by decide) ?_
      refine ax rfl ?_
      refine apV hw S1.sub S1.ok (fun _ h S2=> ?_)
      have S1:=S1.dB S2
      refine ax rfl ?_
      refine oy.2 ?_
      refine bf.2 ?_
      cases hzw:decide (z=w)with
      | true =>
       refine oE ?_
       refine kk2 () gx h _ (.refl _) S1 ⟨es,cl,rfl, ?_⟩
       rw [take false (by rw [h2,hzw];rfl),cond_false,List.append_nil];exact A
      | false =>
       refine vm ?_
       exact put S1 (by rw [h2,hzw];rfl)
   · intro it a gx h1 Γ1 xs yo hp hI S1
     obtain⟨es,cl,rfl,A⟩:=hI
     show mI lo n .ready none true R h1
     refine S1.mI (fun h S=> ?_)
     refine kk gx h _ yo S ⟨qK.trans yo,es,cl,rfl, ?_⟩
     have e:fS (nw w x.2 xs) s=fS (nw w x.2 t) s:=aeh hs fun y=>by
      unfold nw;rw [List.mem_filter,List.mem_filter,hp.mem_iff]
     rw [←e];exact A
 · intro qq gx h Γ2 yo S D1
   obtain⟨qK,es,cl,rfl,A⟩:=D1
   cases hf:q.2 with
   | go =>
    rw [hf]at M
    have M:=Option.some.inj M
    refine aeA ?_
    have r1:=qK.bE r1
    have r2:=qK.bE r2
    have r5:=qK.bE r5
    have cv:=cv.mono aq.mono qK
    unfold PE
    refine bC.2 ?_
    refine S.eH (r1 5 _ rfl) ?_
    refine S.eH (r2 0 _ rfl) ?_
    refine ab.idx cv hi (fun b o2 vs E3 Yf rp=> ?_)
    cases rp
    refine S.mq Yf rfl (by decide) ?_
    refine apT wA S.sub S.ok (fun gy h w S1 F=> ?_)
    have r5:=S1.bF.bE r5
    have S:=S.pD S1
    refine F.len ?_
    exact⟨_,avd r5 F hlen H rs.length 0 (by omega) (by rw [List.drop_zero];exact M) S A⟩
   | ret=>rw [hf]at M;cases M
   | ex j=>rw [hf]at M;cases M
end
end Go.Ve.T
namespace Go.Ve.T
open Go.Ve Go.Proofs
noncomputable section
set_option maxRecDepth 10000
def tK (w0:World) (g:AH) (fv:Value) (f:(List Int)→Option ((List Int))):Prop:=fR fv=true∧∀(a0:List Int) (IM:Value) (r:(List Int)) (E K:Value→W) (g2 h2:AH),Sub g g2→Sub g2 h2→h2.Ok→jZ g2 IM a0→f a0=some r→(∀(g' h':AH) (w1:Value),Sep ⟨g2,h2,[]⟩ g' h' []→ab (rI .i64) 1 g' w1 r→K w1 h')→dy PP w0 [fv,IM] E K h2
theorem tK.mono {w0:World}{g g':AH}{fv:Value}{f:(List Int)→Option ((List Int))}(H:tK w0 g fv f) (S:Sub g g'):tK w0 g' fv f:=⟨H.1,fun a0 IM r E K g2 h2 s1=>H.2 a0 IM r E K g2 h2 (Sub.trans S s1)⟩
def Oh (N:Nat) (y5:Int) (y7:List (List Int)) (c8:(List (List Int))→Int→Option ((List (List Int)))):Option ((List (List Int))) :=
 c8 y7 (bD .i64 (y5+1))
def Oi (N:Nat) (x0:List (List Int)) (y5:Int) (x1:(List Int)→Option ((List Int))) (y4:List (List Int)) (c8:(List (List Int))→Int→Option ((List (List Int)))):Option ((List (List Int))) :=
(ix x0 y5).bind fun gG =>
(x1 gG).bind fun eb =>
 gu (decide (y4.length+[eb].length≤1048576)) (
 Oh N y5 (y4++[eb]) c8)
def Oj (N:Nat) (y1:List (List Int))  :Option ((List (List Int))) :=
 some y1
def IN (N:Nat) (v2:Int) (x0:List (List Int)) (x1:(List Int)→Option ((List Int))) (y4:List (List Int)) (y5:Int) (c8:(List (List Int))→Int→Option ((List (List Int)))):Option ((List (List Int))) :=
 bif (decide (y5<v2))then(
 Oi N x0 y5 x1 y4 c8)else(
 Oj N y4)
def DN (N:Nat) (v2:Int) (x0:List (List Int)) (x1:(List Int)→Option ((List Int)))  :Nat→(List (List Int))→Int→Option ((List (List Int)))
 | 0,_,_=>none
 | n+1,y4,y5=>IN N v2 x0 x1 y4 y5  (fun ag aD=>DN N v2 x0 x1 n ag aD)
def Ol (N:Nat) (x0:List (List Int)) (x1:(List Int)→Option ((List Int))):Option ((List (List Int))) :=
 DN N (x0.length:Int) x0 x1 N ([]:List (List Int)) 0
abbrev DO (c:Cx) (R:Value→W) (r:(List (List Int))):Prop:=∀(g' h':AH) (w1:Value),Sep c g' h' []→ab (rL (rI .i64) 1) 1 g' w1 r→R w1 h'
theorem auI {w0:World}{c:Cx}{g h:AH}{E R:Value→W}{r:(List (List Int))}{N:Nat}{y5:Int}{y7:List (List Int)}{ag3:Value}{ag4:List (List Value)}{k3:Value→Value→W}{c8:(List (List Int))→Int→Option ((List (List Int)))}{fV:AH}(M:Oh N y5 y7 c8=some r) (S:Sep c g h [.sl 28 1 ag3 ag4]) (auJ:ah ((rL (rI .i64) 1) g) ag4 y7) (iR:Sub fV g) (jM:∀{ag:List (List Int)}{bP:Value}{bQ:List (List Value)}{aD:Int}{g2 h2:AH},c8 ag aD=some r→Sub fV g2→Sep c g2 h2 [.sl 28 1 bP bQ]→ah ((rL (rI .i64) 1) g2) bQ ag→k3 bP (vi aD) h2) (H:DO c R r):PI w0 E R (vi y5) k3 ag3 h:=by
 unfold PI
 unfold Oh at M
 refine fF.2 ?_
 exact jM M iR S auJ
theorem auK {w0:World}{c:Cx}{g h:AH}{E R:Value→W}{r:(List (List Int))}{N:Nat}{x0:List (List Int)}{y5:Int}{x1:(List Int)→Option ((List Int))}{y4:List (List Int)}{bI cA tL:Value}{rU:List (List Value)}{k3:Value→Value→W}{c8:(List (List Int))→Int→Option ((List (List Int)))}{fV:AH}(M:Oi N x0 y5 x1 y4 c8=some r) (S:Sep c g h [.sl 28 1 tL rU]) (cw:ab jt 1 g bI x0) (c7:tK w0 g cA x1) (rV:ah ((rL (rI .i64) 1) g) rU y4) (iR:Sub fV g) (jM:∀{ag:List (List Int)}{bP:Value}{bQ:List (List Value)}{aD:Int}{g2 h2:AH},c8 ag aD=some r→Sub fV g2→Sep c g2 h2 [.sl 28 1 bP bQ]→ah ((rL (rI .i64) 1) g2) bQ ag→k3 bP (vi aD) h2) (H:DO c R r):PJ w0 E R bI (vi y5) cA tL k3 h:=by
 unfold PJ
 unfold Oi at M
 obtain⟨gG,mv,M⟩:=bind_some M
 refine ab.idx cw mv (fun Ad GJ vs E_8 IF rp=> ?_)
 obtain⟨w_5,rfl,vG⟩:=rp
 refine S.eH (IF 0 _ rfl) ?_
 obtain⟨eb,mr,M⟩:=bind_some M
 refine c7.2 gG w_5 _ _ _ _ _ (Sub.refl _) S.sub S.ok vG mr (fun g h rW S1 tM=> ?_)
 have cw:=ab.mono cw vk S1.bF
 have c7:=tK.mono c7 S1.bF
 have IF:=S1.bF.bE IF
 have vG:=jZ.mono vG S1.bF
 have rV:=ah.mono rV (fun _ _ hh=>(pE (du .i64)) _ _ _ _ S1.bF hh)
 have iR:=Sub.trans iR S1.bF
 have S:=S.pD S1
 refine S.qy [[rW]] (de (m:=[rW]) (l2:=[rW]) (oA tM.one) rfl (Nat.le_of_ble_eq_true rfl) rfl rfl) rfl (by decide) (tj rfl qA) (aa tM.one rfl) (fun aeE h S=> ?_)
 have vo:ah ((rL (rI .i64) 1) g) [[rW]] [eb]:=(ah.push ah.nil (show(rL (rI .i64) 1) g [rW] eb from⟨_,rfl,tM⟩))
 have S:=S.f1
 obtain⟨auL,M⟩:=mo M
 refine S.app (S.rd 1 rfl) (by rw [rV.1,vo.1];exact auL) (by decide) rfl (la aez vo) (la aez rV) (fun ae9 h S=> ?_)
 have vv:ah ((rL (rI .i64) 1) g) (rU++[[rW]]) (y4++[eb]):=ah.append rV vo
 have S:=S.t1
 exact auI M S vv iR jM H
theorem auM {w0:World}{c:Cx}{g h:AH}{E R:Value→W}{r:(List (List Int))}{N:Nat}{y1:List (List Int)}{X4:Value}{ag5:List (List Value)}  (M:Oj N y1=some r) (S:Sep c g h [.sl 28 1 X4 ag5]) (auN:ah ((rL (rI .i64) 1) g) ag5 y1)  (H:DO c R r):PH w0 E R X4 h:=by
 unfold PH
 unfold Oj at M
 obtain⟨g,sg,S,X5⟩:=S.fz auN (pE (du .i64))
 cases M
 exact H _ _ X4 S.bH X5
theorem auO {w0:World}{c:Cx}{g h:AH}{E R:Value→W}{r:(List (List Int))}{N:Nat}{v2:Int}{x0:List (List Int)}{x1:(List Int)→Option ((List Int))}{y4:List (List Int)}{y5:Int}{bI cA tL:Value}{rU:List (List Value)}{k3:Value→Value→W}{c8:(List (List Int))→Int→Option ((List (List Int)))}{fV:AH}(M:IN N v2 x0 x1 y4 y5 c8=some r) (S:Sep c g h [.sl 28 1 tL rU]) (cw:ab jt 1 g bI x0) (c7:tK w0 g cA x1) (rV:ah ((rL (rI .i64) 1) g) rU y4) (iR:Sub fV g) (jM:∀{ag:List (List Int)}{bP:Value}{bQ:List (List Value)}{aD:Int}{g2 h2:AH},c8 ag aD=some r→Sub fV g2→Sep c g2 h2 [.sl 28 1 bP bQ]→ah ((rL (rI .i64) 1) g2) bQ ag→k3 bP (vi aD) h2) (H:DO c R r):Jy w0 E R (vi v2) bI cA k3 tL (vi y5) h:=by
 unfold Jy
 unfold IN at M
 refine eF.2 ?_
 refine bw (fun hc=> ?_) (fun hc=> ?_)
 · have M:=aQ hc M
   exact auK M S cw c7 rV iR jM H
 · have M:=aS hc M
   exact auM M S rV H
theorem auP {w0:World}{c:Cx}{E R:Value→W}{r:(List (List Int))}{N:Nat}{v2:Int}{x0:List (List Int)}{x1:(List Int)→Option ((List Int))}{bI cA:Value}   (H:DO c R r):∀(n:Nat){y4:List (List Int)}{y5:Int}{tL:Value}{rU:List (List Value)}{g h:AH},DN N v2 x0 x1 n y4 y5=some r→Sep c g h [.sl 28 1 tL rU]→ab jt 1 g bI x0→tK w0 g cA x1→ah ((rL (rI .i64) 1) g) rU y4→eS (α:=Value×Value) (fun k a=>Jy w0 E R (vi v2) bI cA (fun b0 b1=>k (b0,b1)) a.1 a.2) n (tL,(vi y5)) h:=by
 intro n
 induction n with
 | zero =>
  intro y4 y5 tL rU g h M S cw c7 rV
  unfold DN at M;cases M
 | succ n ih =>
  intro y4 y5 tL rU g h M S cw c7 rV
  exact auO M S cw c7 rV  (Sub.refl g) (fun M2 sub S2 mu=>ih M2 S2 (ab.mono cw vk sub) (tK.mono c7 sub) mu) H
theorem auQ {w0:World}{g h:AH}{Q:CR→AH→Prop}{r:(List (List Int))}{N:Nat}{x0:List (List Int)}{x1:(List Int)→Option ((List Int))}{bI cA:Value}(M:Ol N x0 x1=some r) (sg:Sub g h) (ok:h.Ok) (cw:ab jt 1 g bI x0) (c7:tK w0 g cA x1) (H:DO ⟨g,h,[]⟩ (fun v=>Q (.ret v)) r):WF PP w0 PK [bI,cA] h Q:=by
 refine aiG _ _ ?_
 have S:=Sep.start sg ok
 unfold Zy
 unfold Ol at M
 refine cw.len ?_
 have S:=S.zW 28 1
 exact⟨N,auP  H _ M S cw c7 (ah.nil (R:=(rL (rI .i64) 1) g))⟩
def IP (N:Nat) (cn:Int) (aL:Bool) (oV:ak) (Om:List (List Int)) (nZ:Bool→Int→(List (List Int))→Option ((List (List Int)))):Option ((List (List Int))) :=
 nZ aL (bD .i64 (cn-1)) Om
def On (N:Nat) (v1:ak) (cn:Int) (v5:List (List Int)) (bB:Bool) (nZ:Bool→Int→(List (List Int))→Option ((List (List Int)))):Option ((List (List Int))) :=
(IQ N v1 cn v5).bind fun eb =>
(ix v5 cn).bind fun ik =>
 bif (!decide ((eb.length:Int)=(ik.length:Int)))then(
(ix v5 cn).bind fun mn =>
 IP N cn true v1 (v5.set cn.toNat eb) nZ)else(
 IP N cn bB v1 v5 nZ)
def Bi (N:Nat) (v1:ak) (v5:List (List Int)) (bB:Bool) (cn:Int) (lq:Bool→(List (List Int))→Option ((List (List Int)))) (nZ:Bool→Int→(List (List Int))→Option ((List (List Int)))):Option ((List (List Int))) :=
 bif (decide (0≤cn))then(
 On N v1 cn v5 bB nZ)else(
 lq bB v5)
def yi (N:Nat) (v1:ak) (lq:Bool→(List (List Int))→Option ((List (List Int)))):Nat→(List (List Int))→Bool→Int→Option ((List (List Int)))
 | 0,_,_,_=>none
 | n+1,v5,bB,cn=>Bi N v1 v5 bB cn lq (fun ag aD bo=>yi N v1 lq n bo ag aD)
def IS (N:Nat) (v1:ak) (v5:List (List Int)) (lq:Bool→(List (List Int))→Option ((List (List Int)))):Option ((List (List Int))) :=
 yi N v1 lq N v5 false (bD .i64 ((v1.ae.length:Int)-1))
def IT (N:Nat) (v5:List (List Int))  :Option ((List (List Int))) :=
(Ol N v5 (fun a0=>DP a0)).bind fun ag6 =>
 some ag6
def X6 (N:Nat) (v1:ak) (v5:List (List Int)) (y8:Bool) (lq:Bool→(List (List Int))→Option ((List (List Int)))):Option ((List (List Int))) :=
 bif y8 then(
 IS N v1 v5 lq)else(
 IT N v5)
def yj (N:Nat) (v1:ak)  :Nat→(List (List Int))→Bool→Option ((List (List Int)))
 | 0,_,_=>none
 | n+1,v5,y8=>X6 N v1 v5 y8  (fun ag bo=>yj N v1 n bo ag)
def Oo (N:Nat) (v1:ak)  :Option ((List (List Int))) :=
 gu (decide (0≤(v1.ae.length:Int))&&decide ((v1.ae.length:Int)≤65536)) (
 yj N v1 N (List.replicate (v1.ae.length:Int).toNat ([]:List Int)) true)
def zO (N:Nat) (x0:ak):Option ((List (List Int))) :=
(C7 N x0).bind fun aR =>
 bif (!aR)then(
 some ([]:List (List Int)))else(
 Oo N x0)
abbrev tN (c:Cx) (R:Value→W) (r:(List (List Int))):Prop:=∀(g' h':AH) (w1:Value),Sep c g' h' []→ab (rL (rI .i64) 1) 1 g' w1 r→R w1 h'
theorem ag7 {w0:World}{c:Cx}{g h:AH}{E R:Value→W}{r:(List (List Int))}{N:Nat}{cn:Int}{aL:Bool}{oV:ak}{Om:List (List Int)}{ag8:Nat}{X7 X8 ag9:Value}{aha:List (List Value)}{nF:Value→Value→W}{nZ:Bool→Int→(List (List Int))→Option ((List (List Int)))}{yk:AH}(M:IP N cn aL oV Om nZ=some r) (S:Sep c g h [.bx ag8 [(.string oV.aB),(.string oV.aC),(vi oV.fArgs),(vi oV.ay),(vi oV.az),X7,X8],.sl 102 1 ag9 aha]) (ayi:ab aq.rep 4 g X7 oV.ae) (ayj:ab aK.rep 3 g X8 oV.aM) (auR:ah (jt g) aha Om) (yn:Sub yk g) (DQ:∀{ag:Bool}{aD:Int}{bo:List (List Int)}{bR:List (List Value)}{g2 h2:AH},nZ ag aD bo=some r→Sub yk g2→Sep c g2 h2 [.bx ag8 [(.string oV.aB),(.string oV.aC),(vi oV.fArgs),(vi oV.ay),(vi oV.az),X7,X8],.sl 102 1 ag9 bR]→ah (jt g2) bR bo→nF (.bool ag) (vi aD) h2) (H:tN c R r):Jz w0 E R (vi cn) nF (.bool aL) h:=by
 unfold Jz
 unfold IP at M
 refine lZ.2 ?_
 exact DQ M yn S auR
theorem auS {w0:World}{c:Cx}{g h:AH}{E R:Value→W}{r:(List (List Int))}{N:Nat}{v1:ak}{cn:Int}{v5:List (List Int)}{bB:Bool}{al:Nat}{av aw aX:Value}{bh:List (List Value)}{nF:Value→Value→W}{nZ:Bool→Int→(List (List Int))→Option ((List (List Int)))}{yk:AH}(M:On N v1 cn v5 bB nZ=some r) (S:Sep c g h [.bx al [(.string v1.aB),(.string v1.aC),(vi v1.fArgs),(vi v1.ay),(vi v1.az),av,aw],.sl 102 1 aX bh]) (aG:ab aq.rep 4 g av v1.ae) (aJ:ab aK.rep 3 g aw v1.aM) (bt:ah (jt g) bh v5) (yn:Sub yk g) (DQ:∀{ag:Bool}{aD:Int}{bo:List (List Int)}{bR:List (List Value)}{g2 h2:AH},nZ ag aD bo=some r→Sub yk g2→Sep c g2 h2 [.bx al [(.string v1.aB),(.string v1.aC),(vi v1.fArgs),(vi v1.ay),(vi v1.az),av,aw],.sl 102 1 aX bR]→ah (jt g2) bR bo→nF (.bool ag) (vi aD) h2) (H:tN c R r):PM w0 E R (au al 0) (vi cn) aX nF (.bool bB) h:=by
 unfold PM
 unfold On at M
 refine S.dc [(.string v1.aB),(.string v1.aC),(vi v1.fArgs),(vi v1.ay),(vi v1.az),av,aw] 0 rfl rfl rfl (by decide) ?_
 have S:=S.f1
 obtain⟨g_7,sq,uq,F_8,bq⟩:=S.aoq bt vk
 obtain⟨eb,mr,M⟩:=bind_some M
 refine auT mr uq S.ok (ab.mono aG aq.mono sq) (ab.mono aJ aK.mono sq) F_8 (fun _ h rW S1 tM=> ?_)
 obtain⟨g,sg,S,bm⟩:=bq _ _ S1
 have tM:=bm _ _ tM
 have aG:=ab.mono aG aq.mono sg
 have aJ:=ab.mono aJ aK.mono sg
 have bt:=ah.mono bt (fun _ _ hh=>vk _ _ _ _ sg hh)
 have yn:=Sub.trans yn sg
 refine S.aek tM ?_
 obtain⟨ik,Aq,M⟩:=bind_some M
 refine S.dZ 0 rfl bt Aq (fun auA auB vs HX HY rp=> ?_)
 obtain⟨ayk,rfl,X5⟩:=rp
 refine S.fG (j:=0) 0 rfl HX HY rfl ?_
 refine S.aek X5 ?_
 refine oy.2 ?_
 refine bw (fun hc=> ?_) (fun hc=> ?_)
 · have M:=aQ hc M
   obtain⟨mn,Gs,M⟩:=bind_some M
   refine S.dZ 0 rfl bt Gs (fun arR arS vs XZ X0 rp=> ?_)
   obtain⟨ayl,rfl,aym⟩:=rp
   refine S.rB (j:=0) [rW] XZ X0 (oA tM.one) rfl (aa tM.one rfl) (by decide) (fun h S=> ?_)
   have auU:ah (jt g) (bh.set cn.toNat [rW]) (v5.set cn.toNat eb):=ah.set bt (show jt g [rW] eb from⟨_,rfl,tM⟩) cn.toNat
   have S:Sep _ g h [.sl 102 1 aX (bh.set cn.toNat [rW]),.bx al [(.string v1.aB),(.string v1.aC),(vi v1.fArgs),(vi v1.ay),(vi v1.az),av,aw]]:=S
   have S:=S.f1
   exact ag7 M S aG aJ auU yn DQ H
 · have M:=aS hc M
   have S:=S.f1
   exact ag7 M S aG aJ bt yn DQ H
theorem auV {w0:World}{c:Cx}{g h:AH}{E R:Value→W}{r:(List (List Int))}{N:Nat}{v1:ak}{v5:List (List Int)}{bB:Bool}{cn:Int}{al:Nat}{av aw aX:Value}{bh:List (List Value)}{k7:Value→W}{lq:Bool→(List (List Int))→Option ((List (List Int)))}{rX:AH}{nF:Value→Value→W}{nZ:Bool→Int→(List (List Int))→Option ((List (List Int)))}{yk:AH}(M:Bi N v1 v5 bB cn lq nZ=some r) (S:Sep c g h [.bx al [(.string v1.aB),(.string v1.aC),(vi v1.fArgs),(vi v1.ay),(vi v1.az),av,aw],.sl 102 1 aX bh]) (aG:ab aq.rep 4 g av v1.ae) (aJ:ab aK.rep 3 g aw v1.aM) (bt:ah (jt g) bh v5) (vJ:Sub rX g) (Bj:∀{ag:Bool}{bo:List (List Int)}{bR:List (List Value)}{g2 h2:AH},lq ag bo=some r→Sub rX g2→Sep c g2 h2 [.bx al [(.string v1.aB),(.string v1.aC),(vi v1.fArgs),(vi v1.ay),(vi v1.az),av,aw],.sl 102 1 aX bR]→ah (jt g2) bR bo→k7 (.bool ag) h2) (yn:Sub yk g) (DQ:∀{ag:Bool}{aD:Int}{bo:List (List Int)}{bR:List (List Value)}{g2 h2:AH},nZ ag aD bo=some r→Sub yk g2→Sep c g2 h2 [.bx al [(.string v1.aB),(.string v1.aC),(vi v1.fArgs),(vi v1.ay),(vi v1.az),av,aw],.sl 102 1 aX bR]→ah (jt g2) bR bo→nF (.bool ag) (vi aD) h2) (H:tN c R r):JA w0 E R (au al 0) aX k7 nF (.bool bB) (vi cn) h:=by
 unfold JA
 unfold Bi at M
 refine pA.2 ?_
 refine bw (fun hc=> ?_) (fun hc=> ?_)
 · have M:=aQ hc M
   exact auS M S aG aJ bt yn DQ H
 · have M:=aS hc M
   exact Bj M vJ S bt
theorem auW {w0:World}{c:Cx}{E R:Value→W}{r:(List (List Int))}{N:Nat}{v1:ak}{al:Nat}{av aw aX:Value}{k7:Value→W}{lq:Bool→(List (List Int))→Option ((List (List Int)))}{rX:AH}(Bj:∀{ag:Bool}{bo:List (List Int)}{bR:List (List Value)}{g2 h2:AH},lq ag bo=some r→Sub rX g2→Sep c g2 h2 [.bx al [(.string v1.aB),(.string v1.aC),(vi v1.fArgs),(vi v1.ay),(vi v1.az),av,aw],.sl 102 1 aX bR]→ah (jt g2) bR bo→k7 (.bool ag) h2) (H:tN c R r):∀(n:Nat){v5:List (List Int)}{bB:Bool}{cn:Int}{bh:List (List Value)}{g h:AH},yi N v1 lq n v5 bB cn=some r→Sep c g h [.bx al [(.string v1.aB),(.string v1.aC),(vi v1.fArgs),(vi v1.ay),(vi v1.az),av,aw],.sl 102 1 aX bh]→ab aq.rep 4 g av v1.ae→ab aK.rep 3 g aw v1.aM→ah (jt g) bh v5→Sub rX g→eS (α:=Value×Value) (fun k a=>JA w0 E R (au al 0) aX k7 (fun b0 b1=>k (b0,b1)) a.1 a.2) n ((.bool bB),(vi cn)) h:=by
 intro n
 induction n with
 | zero =>
  intro v5 bB cn bh g h M S aG aJ bt vJ
  unfold yi at M;cases M
 | succ n ih =>
  intro v5 bB cn bh g h M S aG aJ bt vJ
  exact auV M S aG aJ bt vJ Bj (Sub.refl g) (fun M2 sub S2 pM=>ih M2 S2 (ab.mono aG aq.mono sub) (ab.mono aJ aK.mono sub) pM (Sub.trans vJ sub)) H
theorem auX {w0:World}{c:Cx}{g h:AH}{E R:Value→W}{r:(List (List Int))}{N:Nat}{v1:ak}{v5:List (List Int)}{al:Nat}{av aw aX:Value}{bh:List (List Value)}{k7:Value→W}{lq:Bool→(List (List Int))→Option ((List (List Int)))}{rX:AH}(M:IS N v1 v5 lq=some r) (S:Sep c g h [.bx al [(.string v1.aB),(.string v1.aC),(vi v1.fArgs),(vi v1.ay),(vi v1.az),av,aw],.sl 102 1 aX bh]) (aG:ab aq.rep 4 g av v1.ae) (aJ:ab aK.rep 3 g aw v1.aM) (bt:ah (jt g) bh v5) (vJ:Sub rX g) (Bj:∀{ag:Bool}{bo:List (List Int)}{bR:List (List Value)}{g2 h2:AH},lq ag bo=some r→Sub rX g2→Sep c g2 h2 [.bx al [(.string v1.aB),(.string v1.aC),(vi v1.fArgs),(vi v1.ay),(vi v1.az),av,aw],.sl 102 1 aX bR]→ah (jt g2) bR bo→k7 (.bool ag) h2) (H:tN c R r):PN w0 E R (au al 0) aX k7 h:=by
 unfold PN
 unfold IS at M
 refine bC.2 ?_
 refine S.bz 0 rfl rfl ?_
 refine aG.len ?_
 refine lZ.2 ?_
 exact⟨N,auW Bj H _ M S aG aJ bt vJ⟩
theorem auY {w0:World}{c:Cx}{g h:AH}{E R:Value→W}{r:(List (List Int))}{N:Nat}{v5:List (List Int)}{aX:Value}{bh:List (List Value)}  (M:IT N v5=some r) (S:Sep c g h [.sl 102 1 aX bh]) (bt:ah (jt g) bh v5)  (H:tN c R r):PL w0 E R aX h:=by
 unfold PL
 unfold IT at M
 obtain⟨g,sg,S,X9⟩:=S.fz bt vk
 have auZ:tK w0 g (fc Jv) (fun a0=>DP a0):=⟨rfl,fun a0 IM r E K g2 h2 s1 s2 s3 q0 m1 k1=>au0 m1 s2 s3 q0 k1⟩
 obtain⟨ag6,au1,M⟩:=bind_some M
 refine auQ au1 S.sub S.ok X9 auZ (fun g h au2 S1 au3=> ?_)
 have X9:=ab.mono X9 vk S1.bF
 have S:=S.pD S1
 cases M
 exact H _ _ au2 S.bH au3
theorem au4 {w0:World}{c:Cx}{g h:AH}{E R:Value→W}{r:(List (List Int))}{N:Nat}{v1:ak}{v5:List (List Int)}{y8:Bool}{al:Nat}{av aw aX:Value}{bh:List (List Value)}{k7:Value→W}{lq:Bool→(List (List Int))→Option ((List (List Int)))}{rX:AH}(M:X6 N v1 v5 y8 lq=some r) (S:Sep c g h [.bx al [(.string v1.aB),(.string v1.aC),(vi v1.fArgs),(vi v1.ay),(vi v1.az),av,aw],.sl 102 1 aX bh]) (aG:ab aq.rep 4 g av v1.ae) (aJ:ab aK.rep 3 g aw v1.aM) (bt:ah (jt g) bh v5) (vJ:Sub rX g) (Bj:∀{ag:Bool}{bo:List (List Int)}{bR:List (List Value)}{g2 h2:AH},lq ag bo=some r→Sub rX g2→Sep c g2 h2 [.bx al [(.string v1.aB),(.string v1.aC),(vi v1.fArgs),(vi v1.ay),(vi v1.az),av,aw],.sl 102 1 aX bR]→ah (jt g2) bR bo→k7 (.bool ag) h2) (H:tN c R r):JB w0 E R (au al 0) aX k7 (.bool y8) h:=by
 unfold JB
 unfold X6 at M
 refine bw (fun hc=> ?_) (fun hc=> ?_)
 · have M:=aQ hc M
   exact auX M S aG aJ bt vJ Bj H
 · have M:=aS hc M
   have S:=S.f1
   have S:=S.t1
   exact auY M S bt H
theorem au5 {w0:World}{c:Cx}{E R:Value→W}{r:(List (List Int))}{N:Nat}{v1:ak}{al:Nat}{av aw aX:Value}   (H:tN c R r):∀(n:Nat){v5:List (List Int)}{y8:Bool}{bh:List (List Value)}{g h:AH},yj N v1 n v5 y8=some r→Sep c g h [.bx al [(.string v1.aB),(.string v1.aC),(vi v1.fArgs),(vi v1.ay),(vi v1.az),av,aw],.sl 102 1 aX bh]→ab aq.rep 4 g av v1.ae→ab aK.rep 3 g aw v1.aM→ah (jt g) bh v5→eS (α:=Value) (fun k a=>JB w0 E R (au al 0) aX k a) n (.bool y8) h:=by
 intro n
 induction n with
 | zero =>
  intro v5 y8 bh g h M S aG aJ bt
  unfold yj at M;cases M
 | succ n ih =>
  intro v5 y8 bh g h M S aG aJ bt
  exact au4 M S aG aJ bt  (Sub.refl g) (fun M2 sub S2 pM=>ih M2 S2 (ab.mono aG aq.mono sub) (ab.mono aJ aK.mono sub) pM) H
theorem au6 {w0:World}{c:Cx}{g h:AH}{E R:Value→W}{r:(List (List Int))}{N:Nat}{v1:ak}{al:Nat}{av aw:Value}  (M:Oo N v1=some r) (S:Sep c g h [.bx al [(.string v1.aB),(.string v1.aC),(vi v1.fArgs),(vi v1.ay),(vi v1.az),av,aw]]) (aG:ab aq.rep 4 g av v1.ae) (aJ:ab aK.rep 3 g aw v1.aM)  (H:tN c R r):PO w0 E R (au al 0) h:=by
 unfold PO
 unfold Oo at M
 refine bC.2 ?_
 refine S.bz 0 rfl rfl ?_
 refine aG.len ?_
 obtain⟨XK,M⟩:=mo M
 refine S.VM XK rfl (aa rfl rfl) (fun XL h S=> ?_)
 have ID:ah (jt g) (List.replicate (v1.ae.length:Int).toNat [(.map none)]) (List.replicate (v1.ae.length:Int).toNat ([]:List Int)):=ah.MU (show jt g [(.map none)] ([]:List Int)from⟨_,rfl,jZ.nil⟩) _
 have S:=S.f1
 exact⟨N,au5  H _ M S aG aJ ID⟩
theorem an8 {w0:World}{g h:AH}{Q:CR→AH→Prop}{r:(List (List Int))}{N:Nat}{x0:ak}{cU cV:Value}(M:zO N x0=some r) (sg:Sub g h) (ok:h.Ok) (cv:ab aq.rep 4 g cU x0.ae) (cZ:ab aK.rep 3 g cV x0.aM) (H:tN ⟨g,h,[]⟩ (fun v=>Q (.ret v)) r):WF PP w0 PS [(.agg ⟨[(.string x0.aB),(.string x0.aC),(vi x0.fArgs),(vi x0.ay),(vi x0.az),cU,cV]⟩)] h Q:=by
 refine aiH _ ?_
 have S:=Sep.start sg ok
 unfold Zz
 unfold zO at M
 refine S.box [(.string x0.aB),(.string x0.aC),(vi x0.fArgs),(vi x0.ay),(vi x0.az),cU,cV] rfl (aa rfl (aa rfl (aa rfl (aa rfl (aa rfl (aa cv.one (aa cZ.one rfl))))))) (fun jl h S=> ?_)
 refine S.dc [(.string x0.aB),(.string x0.aC),(vi x0.fArgs),(vi x0.ay),(vi x0.az),cU,cV] 0 rfl rfl rfl (by decide) ?_
 obtain⟨aR,jc,M⟩:=bind_some M
 refine aeP jc S.sub S.ok cv cZ (fun _ h  S1  => ?_)
 have S:=S.dB S1
 refine gN.2 ?_
 refine bw (fun hc=> ?_) (fun hc=> ?_)
 · have M:=aQ hc M
   cases M
   exact H _ _ cg S.bH ab.nil
 · have M:=aS hc M
   exact au6 M S cv cZ H
end
end Go.Ve.T
