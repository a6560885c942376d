/- Part 6: VEval, part 7: each operation of the evaluator stands for the machine's own, the rest. No condition. And what follows it. -/
import Derived.Test.YteeibihhdldjfaaGreatDoorVeE
import Derived.Laws.MakeOwn
set_option linter.unusedVariables false
set_option linter.unusedSimpArgs false
namespace Go.Ve
open Go.RowKit
section
variable {P:Program}{w0 w:World}{φ:aO}{h:AH}{ρ:Operand→Value}{o:Oper}{vs:List Value}{k:KV}
def Vk:Nat→TypeDesc→Bool
 | 0,.pointer _=>true
 | 1,.slice _=>true
 | 2,.map _ _=>true
 | 3,.func _ _ _=>true
 | 4,.interface _=>true
 | _,_=>false
theorem ank {nk:Nat}{t:TypeId}{d:TypeDesc}{a b:Value}{x y:Bool}(n:Nat) (hu:P.underlying t=some d) (hd:Vk nk d=true) (ha:kH nk a=some x) (hb:kH nk b=some y) (Vl:x=true∨y=true) :
 (Op.equalIn (n+1) t a b).run P w= .ok (x&&y) w:=by
 unfold kH at ha
 split at ha<;>cases ha<;>(unfold kH at hb;split at hb<;>first | (cases hb;done) | skip)<;>cases hb<;>(unfold Vk at hd;split at hd<;>first | (cases hd;done) | skip)<;>first
  | (exfalso;omega)
  | (exfalso;rcases Vl with h | h<;>cases h;done)
  | (simp only [Op.equalIn,Sem.run_bind,run_underlying hu,Result.andThen_ok];rfl)
theorem anl {nk:Nat}{t:TypeId}{a b:Value}{x y r:Bool}(ha:kH nk a=some x) (hb:kH nk b=some y) (hr:(Op.equal t a b).run P w= .ok r w) :
 (binOp .eql t a b).run P w= .ok (.bool r) w∧(binOp .neq t a b).run P w= .ok (.bool (!r)) w:=by
 unfold kH at ha
 split at ha<;>cases ha<;>(unfold kH at hb;split at hb<;>first | (cases hb;done) | skip)<;>cases hb<;>constructor<;>simp [binOp,hr]
theorem acM {nk:Nat}{op:BinOp}{t:TypeId}{X Y:Operand}{a b:Value}{x y:Bool}(ha:kH nk a=some x) (hb:kH nk b=some y) (hk:nk=4→(zu X||zu Y)=true):(eqGuard op t X Y a b).run P w= .ok () w:=by
 have hc:nk=4→((X matches .const _)||(Y matches .const _))=true:=by
  intro h4
  have:=hk h4
  unfold zu at this
  cases X<;>cases Y<;>simp_all
 unfold kH at ha
 split at ha<;>cases ha<;>(unfold kH at hb;split at hb<;>first | (cases hb;done) | skip)<;>cases hb<;>(unfold eqGuard;cases op<;>simp)
 all_goals
  have:=hc rfl
  intro h1
  cases X<;>cases Y<;>simp_all
theorem qY {nk:Nat}{op:BinOp}{t u:TypeId}{x y:Operand}{d:TypeDesc}{ng:Bool}(ho:o.op= .binOp op t x y u) (aY:(op= .eql∧ng=false)∨(op= .neq∧ng=true)) (hu:P.underlying t=some d) (hd:Vk nk d=true) (hk:nk=4→(zu x||zu y)=true) (H:HR P w0 φ h w) (hv:LR φ vs ([x,y].map ρ)) (e:K4 nk ng vs h k=true):PR P w0 φ h ((execOp ρ o).run P w) fun v h'=>k v h'=true:=by
 obtain⟨p,q,ar,e1⟩:=ji e;clear e;subst ar;have e:=e1;clear e1
 obtain⟨p',q',hp,hr,hq⟩:=hv.two
 simp at hp;obtain⟨e1,e2⟩:=hp;subst e1 e2
 have key:∃a b,kH nk p=some a∧kH nk q=some b∧(a=true∨b=true)∧k (.bool (bif ng then !(a&&b)else(a&&b))) h=true:=by
  unfold Fh at e
  split at e
  · rename_i b h1 h2
    simp only [uI,jV]at e
    exact⟨true,b,h1,h2,.inl rfl,by simpa using e⟩
  · rename_i b _ h1 h2
    simp only [uI,jV]at e
    exact⟨b,true,h1,h2,.inr rfl,by simpa using e⟩
  · cases e
 obtain⟨a,b,h1,h2,h3,h4⟩:=key
 have jr:=adS hr h1
 have uz:=adS hq h2
 have cD:(Op.equal t (ρ x) (ρ y)).run P w= .ok (a&&b) w:=ank 9999 hu hd jr uz h3
 have hg:=acM (P:=P) (w:=w) (op:=op) (t:=t) jr uz hk
 have hb:=anl jr uz cD
 rcases aY with⟨rfl,rfl⟩ | ⟨rfl,rfl⟩
 · exact .same H (by simp only [execOp,ho];simp [hg,hb.1]) (.bool _) h4
 · exact .same H (by simp only [execOp,ho];simp [hg,hb.2]) (.bool _) h4
theorem anm {kc:Nat}{a b:Value}{r:Bool}{t:TypeId}{d:TypeDesc}(he:nL kc a b=some r) (hu:P.underlying t=some d) (hk:kU d=some kc) (n:Nat):(Op.equalIn (n+1) t a b).run P w= .ok r w∧nO d=false:=by
 unfold nL at he
 split at he
 · rename_i k1 x k2 y
   cases eW:gK k1 k2 with
   | false=>rw [eW]at he;cases he
   | true =>
    rw [eW]at he
    simp only [cond_true,Option.some.injEq]at he
    obtain rfl:=o5 eW
    subst he
    unfold kU at hk
    split at hk<;>first | (cases hk;done) | skip
    rw [ur]
    exact⟨run_equalIn_int w n t k1 _ x y hu,rfl⟩
 · rename_i x y
   simp only [Option.some.injEq]at he
   subst he
   unfold kU at hk
   split at hk<;>first | (cases hk;done) | skip
   refine⟨?_,rfl⟩
   rw [run_equalIn_bool' w n t x y hu]
   cases x<;>cases y<;>rfl
 · rename_i x y
   simp only [Option.some.injEq]at he
   subst he
   unfold kU at hk
   split at hk<;>first | (cases hk;done) | skip
   rw [eqStr]
   exact⟨run_equalIn_string w n t x y hu,rfl⟩
 · cases he
theorem Et {kc:Nat}{a b a' b':Value}{r:Bool}(ha:VR φ a a') (hb:VR φ b b') (he:nL kc a b=some r):a'=a∧b'=b:=by
 unfold nL at he
 split at he<;>first | (cases he;done) | skip
 · exact⟨ha.iZ,hb.iZ⟩
 · exact⟨ha.sv,hb.sv⟩
 · exact⟨ha.kV,hb.kV⟩
theorem adT:∀(fs:List Field) (n:Nat) (ks:List Nat) (xs ys:Array Value) (l m l' m':List Value) (r:Bool) (dp:Nat),Cd P n fs=some ks→zl ks l m=some r→LR φ l l'→LR φ m m'→
 xs.toList.drop n=l'→ys.toList.drop n=m'→(Op.eqFields (dp+1) xs ys fs).run P w= .ok r w
 | [],n,ks,xs,ys,l,m,l',m',r,dp,hf,he,_,_,_,_=>by
  simp only [Cd,Option.some.injEq]at hf
  subst hf
  cases l with
  | nil =>
   cases m with
   | nil=>simp only [zl,Option.some.injEq]at he;subst he;simp [Op.eqFields]
   | cons _ _=>simp [zl]at he
  | cons _ _=>simp [zl]at he
 | f::fs,n,ks,xs,ys,l,m,l',m',r,dp,hf,he,hl,hm,hx,hy=>by
  simp only [Cd]at hf
  split at hf
  · rename_i hnm
    split at hf
    · rename_i kc ks' h1 h2
      cases hf
      unfold zl at he
      split at he
      · rename_i q;cases q
      · rename_i kc' awk a l2 b m2 q
        cases q
        cases hl with | cons _ a' _ EX ha hl =>
        cases hm with | cons _ b' _ m2' hb hm =>
        obtain⟨d,hd1,hd2⟩:∃d,P.underlying f.type=some d∧kU d=some kc:=by
         cases hu:P.underlying f.type with
         | none=>simp [hu]at h1
         | some d=>exact⟨d,rfl,by simpa [hu]using h1⟩
        have gx:xs[n]? =some a':=by
         have:(xs.toList.drop n)[0]? =some a':=by rw [hx];rfl
         simpa using this
        have gy:ys[n]? =some b':=by
         have:(ys.toList.drop n)[0]? =some b':=by rw [hy];rfl
         simpa using this
        have dx:xs.toList.drop (n+1)=EX:=by
         have:=congrArg (List.drop 1) hx
         simpa using this
        have dy:ys.toList.drop (n+1)=m2':=by
         have:=congrArg (List.drop 1) hy
         simpa using this
        have hof:f.offset=n:=hnm.2
        cases hs:nL kc a b with
        | none=>rw [hs]at he;cases he
        | some r1 =>
         obtain⟨rfl,rfl⟩:=Et ha hb hs
         obtain⟨cD,hag⟩:=anm (w:=w) hs hd1 hd2 dp
         rw [hs]at he
         simp only [Op.eqFields,hnm.1,ne_eq,not_false_eq_true,if_true,hof]
         simp only [Sem.run_bind,part,uD hd1,hag,Result.andThen_ok,Bool.false_eq_true,if_false,gx,gy,Sem.run_pure,cD]
         cases r1 with
         | false=>cases he;simp
         | true =>
          simp only [Bool.not_true,Bool.false_eq_true,if_false]
          exact adT fs (n+1) ks' xs ys l2 m2 EX m2' r dp h2 he hl hm dx dy
      · cases he
    · cases hf
  · cases hf
theorem aaA {op:BinOp}{t u:TypeId}{x y:Operand}{fs:Array Field}{ks:List Nat}{ng:Bool}(ho:o.op= .binOp op t x y u) (aY:(op= .eql∧ng=false)∨(op= .neq∧ng=true)) (hu:P.underlying t=some (.struct fs))
 (hs:P.stoodInHeld t=false) (hq:P.eqGuardType P.depth t=false) (hf:Cd P 0 fs.toList=some ks) (H:HR P w0 φ h w) (hv:LR φ vs ([x,y].map ρ)) (e:Te ng ks vs h k=true):PR P w0 φ h ((execOp ρ o).run P w) fun v h'=>k v h'=true:=by
 obtain⟨p,q,ar,e1⟩:=ji e;clear e;subst ar;have e:=e1;clear e1
 obtain⟨p',q',hp,hr,hq'⟩:=hv.two
 simp at hp;obtain⟨e1,e2⟩:=hp;subst e1 e2
 obtain⟨a,ar,e1⟩:=Ch e;clear e;subst ar;have e:=e1;clear e1
 obtain⟨b,ar,e1⟩:=Ch e;clear e;subst ar;have e:=e1;clear e1
 obtain⟨a',hx,hla⟩:=hr.zy
 obtain⟨b',hy,sR⟩:=hq'.zy
 unfold uI at e
 split at e
 · rename_i r he
   rw [jV]at e
   have Mu:P.fieldsOf t=fs:=by unfold Program.fieldsOf;rw [hu]
   have cD:(Op.equal t (.agg a') (.agg b')).run P w= .ok r w:=by
    unfold Op.equal
    rw [show Op.maxDepth=9998+1+1 from rfl,run_equalIn_struct w _ t a' b' (by rw [Mu];exact hu) hs,Mu]
    exact adT fs.toList 0 ks a' b' _ _ _ _ r 9998 hf he hla sR (by simp) (by simp)
   have hg:(eqGuard op t x y (.agg a') (.agg b')).run P w= .ok () w:=by
    rcases aY with⟨rfl,rfl⟩ | ⟨rfl,rfl⟩<;>simp [eqGuard,hq]
   have hb:(binOp op t (.agg a') (.agg b')).run P w= .ok (.bool (bif ng then !r else r)) w:=by
    rcases aY with⟨rfl,rfl⟩ | ⟨rfl,rfl⟩<;>simp [binOp,cD]
   exact .same H (by simp only [execOp,ho,hx,hy];simp [hg,hb]) (.bool _) e
 · cases e
end
end Go.Ve
namespace Go.Ve
open Go.RowKit
section
variable {P:Program}{w0 w:World}{φ:aO}{h:AH}{ρ:Operand→Value}{o:Oper}{vs:List Value}{k:KV}
theorem sQ {x:Option Operand}{rest:List Operand}{vs:List Value}{d:Nat}{k:Nat→List Value→Bool}(e:qo x.isSome vs d k=true) (hv:LR φ vs ((x.toList++rest).map ρ)) :
 ∃n jH,k n jH=true∧LR φ jH (rest.map ρ)∧((x=none∧n=d)∨∃y kd,x=some y∧ρ y= .int kd (Int.ofNat n)):=by
 cases x with
 | none=>exact⟨d,vs,e,by simpa using hv,.inl ⟨rfl,rfl⟩⟩
 | some y =>
  cases vs with
  | nil=>cases e
  | cons v vs =>
   obtain⟨kd,n,rfl,e⟩:=um (show qn v (fun n=>k n vs)=true from e)
   simp only [Option.toList_some,List.cons_append,List.nil_append,List.map_cons]at hv
   cases hv with | cons _ v' _ l' h1 h2 =>
   exact⟨n,vs,e,h2,.inr ⟨y,kd,rfl,h1.iZ⟩⟩
theorem run_sliceBound (kd:IntKind) (n y:Nat) (c:BoundsCode) (hle:n≤y):(Instr.sliceBound (.int kd (n:Int)) y c).run P w= .ok n w:=by
 simp [Instr.sliceBound,asIntOf,hle]
theorem Ls {isS:Bool}{len cap l hh m:Nat}{lo hi mx:Option Operand}(zK:mx.isSome=true→hi.isSome=true)
 (hl:(lo=none∧l=0)∨∃y kd,lo=some y∧ρ y= .int kd (Int.ofNat l)) (hh':(hi=none∧hh=len)∨∃y kd,hi=some y∧ρ y= .int kd (Int.ofNat hh)) (hm:(mx=none∧m=cap)∨∃y kd,mx=some y∧ρ y= .int kd (Int.ofNat m))
 (h1:l≤hh) (h2:hh≤m) (h3:m≤cap):(Instr.sliceBounds isS len cap (lo.map ρ) (hi.map ρ) (mx.map ρ)).run P w= .ok (l,hh,m) w:=by
 unfold Instr.sliceBounds
 rcases hm with⟨rfl,rfl⟩ | ⟨ym,km,rfl,em⟩<;>rcases hh' with⟨rfl,rfl⟩ | ⟨yh,kh,rfl,eh⟩<;>rcases hl with⟨rfl,rfl⟩ | ⟨yl,kl,rfl,el⟩
 · simp
 · simp [el,run_sliceBound kl l hh _ h1]
 · simp [eh,run_sliceBound kh hh m _ h2]
 · simp [eh,el,run_sliceBound kh hh m _ h2,run_sliceBound kl l hh _ h1]
 · simp at zK
 · simp at zK
 · simp [em,eh,run_sliceBound km m cap _ h3,run_sliceBound kh hh m _ h2]
 · simp [em,eh,el,run_sliceBound km m cap _ h3,run_sliceBound kh hh m _ h2,run_sliceBound kl l hh _ h1]
theorem Vm {a a':Addr}{l hh m sz:Nat}{k:Value→Bool}{r:Value→Bool}(hs:φ a.block≠none) (hm:m<bg) (h1:l≤hh) (h2:hh≤m) (dH:0<m→AtR φ a a')
 (e:(bif Nat.beq m l then k (.slice (some ⟨a.block,a.off,none⟩) (hh-l) 0)else k (.slice (some ⟨a.block,a.off+l*sz,none⟩) (hh-l) (m-l)))=true) :
 ∃v,k v=true∧VR φ v (.slice (if m=l then some a' else some (a'.add (l*sz))) (hh-l) (m-l)):=by
 by_cases qt:m=l
 · subst qt
   rw [ma rfl,cond_true]at e
   refine⟨_,e, ?_⟩
   simp only [if_true,Nat.sub_self]
   have:hh-m=0:=by omega
   rw [this]
   exact .sl _ _ _ _ _ hs (.inl ⟨by unfold bg;omega,rfl,Nat.le_refl _,fun h=>by omega⟩)
 · rw [gg qt,cond_false]at e
   refine⟨_,e, ?_⟩
   rw [if_neg qt]
   refine .sl _ _ _ _ _ hs (.inl ⟨by omega,rfl,by omega,fun h b d n hl=> ?_⟩)
   obtain⟨e1,e2,e3⟩:=dH (by omega) b d n hl
   rw [nR a' e3]
   exact⟨e1,by show a'.off+l*sz+d=a.off+l*sz;omega,rfl⟩
theorem aj0 {t e':TypeId}{x:Operand}{lo hi mx:Option Operand}{sz:Nat}(ho:o.op= .slice t x lo hi mx) (hu:P.underlying t=some (.slice e')) (hz:fo P e'=some sz) (fQ:0<sz) (zK:mx.isSome=true→hi.isSome=true)
 (H:HR P w0 φ h w) (hv:LR φ vs ((x::(lo.toList++hi.toList++mx.toList)).map ρ)) (e:Fi sz lo.isSome hi.isSome mx.isSome vs h k=true):PR P w0 φ h ((execOp ρ o).run P w) fun v h'=>k v h'=true:=by
 obtain⟨i,dK,rfl⟩:=mP hz
 cases vs with
 | nil=>cases e
 | cons v vs =>
  simp only [List.map_cons]at hv
  cases hv with | cons _ v' _ l' hr hv =>
  have hv:LR φ vs ((lo.toList++(hi.toList++mx.toList)).map ρ):=by simpa using hv
  unfold Fi at e
  dsimp only at e
  rcases qU e with⟨l0,c0,ar,e1⟩ | ⟨a,len,cap,ar,e1⟩<;>clear e<;>subst ar
  · obtain⟨rfl,rfl,hx⟩:=hr.sw
    obtain⟨l,TQ,e2,uv,hl⟩:=sQ e1 hv
    obtain⟨hh,TS,e3,o9,zv⟩:=sQ (rest:=mx.toList) e2 uv
    obtain⟨c1,e4⟩:=cI e3
    simp only [Bool.and_eq_true]at c1
    obtain⟨⟨⟨c1,c2⟩,c3⟩,c4⟩:=c1
    obtain rfl:=Nat.eq_of_beq_eq_true c1
    obtain rfl:=Nat.eq_of_beq_eq_true c2
    have Ez:mx=none:=by cases mx<;>simp_all
    subst Ez
    have hb:=Ls (P:=P) (w:=w) (isS:=true) (len:=0) (cap:=0) (m:=0) zK hl zv (.inl ⟨rfl,rfl⟩) (Nat.le_refl _) (Nat.le_refl _) (Nat.le_refl _)
    simp only [Option.map_none]at hb
    refine .same H ?_ .oe e4
    simp only [execOp,ho,hx]
    simp only [Instr.sliceAt,Instr.slice,Sem.run_bind,run_underlying hu,Result.andThen_ok]
    simp [hb,kD dK]
  · obtain⟨a',dJ,hx,hs,hc⟩:=hr.pW
    obtain⟨l,TQ,e2,uv,hl⟩:=sQ e1 hv
    obtain⟨hh,TS,e3,o9,zv⟩:=sQ (rest:=mx.toList) e2 uv
    obtain⟨m,vs3,e4,hv3,hm⟩:=sQ (x:=mx) (rest:=[]) e3 (by simpa using o9)
    obtain⟨c1,e5⟩:=cI e4
    simp only [Bool.and_eq_true]at c1
    obtain⟨⟨⟨⟨⟨_,c1⟩,c2⟩,c3⟩,c4⟩,c5⟩:=c1
    have c1:=Nat.le_of_ble_eq_true c1
    have c2:=Nat.le_of_ble_eq_true c2
    unfold uJ at e5
    rw [cz]at e5
    have fin:∀{m':Nat}{v:Value},((mx=none∧m'=dJ)∨∃y kd,mx=some y∧ρ y= .int kd (Int.ofNat m'))→hh≤m'→m'≤dJ→k v h=true→
     VR φ v (.slice (if m'=l then some a' else some (a'.add (l*i.size))) (hh-l) (m'-l))→PR P w0 φ h ((execOp ρ o).run P w) fun v h'=>k v h'=true:=by
     intro m' v q1 q2 q3 q4 q5
     have hb:=Ls (P:=P) (w:=w) (isS:=true) (len:=len) (cap:=dJ) (m:=m') zK hl zv q1 c1 q2 q3
     refine .same H ?_ q5 q4
     simp only [execOp,ho,hx]
     simp only [Instr.sliceAt,Instr.slice,Sem.run_bind,run_underlying hu,Result.andThen_ok]
     simp [hb,kD dK]
     try (split<;>rfl)
    rcases hc with⟨g1,g2,g2',g3⟩ | ⟨sz,g1,g2,g3,g4⟩
    · -- rk capacity is known
      have KH:Nat.ble bg cap=false:=by rw [wg];simp;omega
      rw [KH]at e5 c4
      simp only [Bool.false_and,cond_false]at e5
      obtain⟨ru,e5⟩:=cI e5
      have ru:m<bg:=Nat.le_of_ble_eq_true ru
      rw [cz,cz]at e5
      subst g2
      have hmc:m≤dJ:=by
       rcases hm with⟨_,rfl⟩ | ⟨y,kd,hy,_⟩
       · exact Nat.le_refl _
       · rw [hy]at c4;exact Nat.le_of_ble_eq_true (by simpa using c4)
      obtain⟨v,q1,q2⟩:=Vm (k:=fun v=>k v h) (r:=fun _=>true) (sz:=i.size) hs ru c1 c2 (fun hp=>g3 (by omega)) e5
      exact fin hm c2 hmc q1 q2
    · -- it is not
      have hb:Nat.ble bg cap=true:=by rw [wg];simp;omega
      rw [hb]at e5 c4 c5 c3
      simp only [Bool.not_true,Bool.or_false]at c3
      have c3:=Nat.le_of_ble_eq_true c3
      have c5:=Nat.eq_of_beq_eq_true (by simpa using c5:Nat.beq cap (Nat.add bg i.size)=true)
      have ann:sz=i.size:=by have:bg+sz=bg+i.size:=g1▸c5;omega
      subst ann
      rcases hm with⟨Ez,rfl⟩ | ⟨y,kd,hy,Gf⟩
      · subst Ez
        simp only [Option.isSome_none,Bool.not_false,Bool.and_self,cond_true,cz]at e5
        refine fin (m':=dJ) (.inl ⟨rfl,rfl⟩) (by omega) (Nat.le_refl _) e5 ?_
        by_cases qt:dJ=l
        · rw [if_pos qt]
          refine .sl _ _ _ _ _ hs (.inr ⟨i.size,g1,g2,(by show hh-l≤dJ-l;omega),fun hp=>by omega⟩)
        · rw [if_neg qt]
          refine .sl _ _ _ _ _ hs (.inr ⟨i.size,g1,g2,(by show hh-l≤dJ-l;omega),fun hp=>⟨fun b d n hl=> ?_,fun b d n hl=> ?_⟩⟩)
          · obtain⟨e1,e2,e3⟩:=(g4 (by omega)).1 b d n hl
            rw [nR a' e3]
            exact⟨e1,by show a'.off+l*i.size+d=a.off+l*i.size;omega,rfl⟩
          · have h5:=(g4 (by omega)).2 b d n hl
            obtain⟨e1,e2,e3⟩:=(g4 (by omega)).1 b d n hl
            rw [nR a' e3]
            show a'.off+l*i.size+(dJ-l)*i.size≤n
            have:l*i.size+(dJ-l)*i.size=dJ*i.size:=by rw [←Nat.add_mul];congr 1;omega
            omega
      · have Gg:mx.isSome=true:=by rw [hy];rfl
        rw [Gg]at e5 c4
        simp only [Bool.not_true,Bool.and_false,cond_false]at e5
        have qt:m≤len:=Nat.le_of_ble_eq_true (by simpa using c4)
        obtain⟨ru,e5⟩:=cI e5
        have ru:m<bg:=Nat.le_of_ble_eq_true ru
        rw [cz,cz]at e5
        obtain⟨v,q1,q2⟩:=Vm (k:=fun v=>k v h) (r:=fun _=>true) (sz:=i.size) hs ru c1 c2 (fun hp=>(g4 (by omega)).1) e5
        exact fin (.inr ⟨y,kd,hy,Gf⟩) c2 (by omega) q1 q2
theorem aj1 {t e':TypeId}{x:Operand}{lo hi mx:Option Operand}{sz n:Nat}(ho:o.op= .slice t x lo hi mx) (hu:P.underlying t=some (.array n e')) (hz:fo P e'=some sz) (zK:mx.isSome=true→hi.isSome=true)
 (H:HR P w0 φ h w) (hv:LR φ vs ((x::(lo.toList++hi.toList++mx.toList)).map ρ)) (e:Fj n sz lo.isSome hi.isSome mx.isSome vs h k=true):PR P w0 φ h ((execOp ρ o).run P w) fun v h'=>k v h'=true:=by
 obtain⟨i,dK,rfl⟩:=mP hz
 cases vs with
 | nil=>cases e
 | cons v vs =>
  simp only [List.map_cons]at hv
  cases hv with | cons _ v' _ l' hr hv =>
  have hv:LR φ vs ((lo.toList++(hi.toList++mx.toList)).map ρ):=by simpa using hv
  unfold Fj at e
  dsimp only at e
  obtain⟨a,ar,e1⟩:=mO e;clear e;subst ar
  obtain⟨a',hx,hs,dH⟩:=hr.lB
  obtain⟨l,TQ,e2,uv,hl⟩:=sQ e1 hv
  obtain⟨hh,TS,e3,o9,zv⟩:=sQ (rest:=mx.toList) e2 uv
  obtain⟨m,vs3,e4,hv3,hm⟩:=sQ (x:=mx) (rest:=[]) e3 (by simpa using o9)
  obtain⟨c1,e5⟩:=cI e4
  simp only [Bool.and_eq_true]at c1
  obtain⟨⟨⟨_,c1⟩,c2⟩,c3⟩:=c1
  have c1:=Nat.le_of_ble_eq_true c1
  have c2:=Nat.le_of_ble_eq_true c2
  have c3:=Nat.le_of_ble_eq_true c3
  unfold uJ at e5
  rw [cz]at e5
  simp only [Bool.not_true,Bool.and_false,cond_false]at e5
  obtain⟨ru,e5⟩:=cI e5
  have ru:m<bg:=Nat.le_of_ble_eq_true ru
  rw [cz,cz]at e5
  obtain⟨v,q1,q2⟩:=Vm (k:=fun v=>k v h) (r:=fun _=>true) (sz:=i.size) hs ru c1 c2 (fun _=>dH) e5
  have hb:=Ls (P:=P) (w:=w) (isS:=false) (len:=n) (cap:=n) (m:=m) zK hl zv hm c1 c2 c3
  refine .same H (v':=.slice (if m=l then some a' else some (a'.add (l*i.size))) (hh-l) (m-l)) ?_ q2 q1
  simp only [execOp,ho,hx]
  simp only [Instr.sliceAt,Sem.run_bind,run_underlying hu,Result.andThen_ok,Instr.sureAddr]
  simp [hb,kD dK]
  try (split<;>rfl)
end
end Go.Ve
