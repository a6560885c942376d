/- Part 6: each operation of the evaluator stands for the machine's own, the rest. No condition. And more. -/
import Derived.Test.YteeibihhdldjfaaGreatDoorVeE
import Derived.Laws.MakeOwn
set_option linter.unusedVariables false
set_option linter.unusedSimpArgs false
namespace Go.Ve
open Go.RowKit
section
variable {P:Program}{w0 w:World}{φ:aY}{h:AH}{ρ:Operand→Value}{o:Oper}{vs:List Value}{k:KV}
def adT:Nat→TypeDesc→Bool
 | 0,.pointer _=>true
 | 1,.slice _=>true
 | 2,.map _ _=>true
 | 3,.func _ _ _=>true
 | 4,.interface _=>true
 | _,_=>false
theorem ayJ {nk:Nat}{t:TypeId}{d:TypeDesc}{a b:Value}{x y:Bool}(n:Nat) (hu:P.underlying t=some d) (hd:adT nk d=true) (ha:lP nk a=some x) (hb:lP nk b=some y) (hxy:x=true∨y=true):
 (Op.equalIn (n+1) t a b).run P w= .ok (x&&y) w:=by
 unfold lP at ha
 split at ha<;>cases ha<;>(unfold lP at hb;split at hb<;>first | (cases hb;done) | skip)<;>cases hb<;>(unfold adT at hd;split at hd<;>first | (cases hd;done) | skip)<;>first
  | (exfalso;omega)
  | (exfalso;rcases hxy with h | h<;>cases h;done)
  | (simp only [Op.equalIn,Sem.run_bind,run_underlying hu,Result.andThen_ok];rfl)
theorem ayK {nk:Nat}{t:TypeId}{a b:Value}{x y r:Bool}(ha:lP nk a=some x) (hb:lP nk b=some y) (hr:(Op.equal t a b).run P w= .ok r w):
 (binOp .eql t a b).run P w= .ok (.bool r) w∧(binOp .neq t a b).run P w= .ok (.bool (!r)) w:=by
 unfold lP at ha
 split at ha<;>cases ha<;>(unfold lP at hb;split at hb<;>first | (cases hb;done) | skip)<;>cases hb<;>constructor<;>simp [binOp,hr]
theorem alG {nk:Nat}{op:BinOp}{t:TypeId}{X Y:Operand}{a b:Value}{x y:Bool}(ha:lP nk a=some x) (hb:lP nk b=some y) (hk:nk=4→(Fq X||Fq Y)=true):(eqGuard op t X Y a b).run P w= .ok () w:=by
 have hc:nk=4→((X matches .const _)||(Y matches .const _))=true:=by
  intro h4
  have:=hk h4
  unfold Fq at this
  cases X<;>cases Y<;>simp_all
 unfold lP at ha
 split at ha<;>cases ha<;>(unfold lP at hb;split at hb<;>first | (cases hb;done) | skip)<;>cases hb<;>(unfold eqGuard;cases op<;>simp)
 all_goals
  have:=hc rfl
  intro h1
  cases X<;>cases Y<;>simp_all
theorem w8 {nk:Nat}{op:BinOp}{t u:TypeId}{x y:Operand}{d:TypeDesc}{ng:Bool}(ho:o.op= .binOp op t x y u) (bK:(op= .eql∧ng=false)∨(op= .neq∧ng=true)) (hu:P.underlying t=some d) (hd:adT nk d=true) (hk:nk=4→(Fq x||Fq y)=true) (H:HR P w0 φ h w) (hv:LR φ vs ([x,y].map ρ)) (e:To nk ng vs h k=true):PR P w0 φ h ((execOp ρ o).run P w) fun v h'=>k v h'=true:=by
 obtain⟨p,q,aM,e1⟩:=lx e;clear e;subst aM;have e:=e1;clear e1
 obtain⟨p',q',hp,hr,hq⟩:=hv.two
 simp at hp;obtain⟨e1,e2⟩:=hp;subst e1 e2
 have key:∃a b,lP nk p=some a∧lP nk q=some b∧(a=true∨b=true)∧k (.bool (bif ng then !(a&&b)else(a&&b))) h=true:=by
  unfold HX at e
  split at e
  · rename_i b h1 h2
    simp only [yB,lA]at e
    exact⟨true,b,h1,h2,.inl rfl,by simpa using e⟩
  · rename_i b _ h1 h2
    simp only [yB,lA]at e
    exact⟨b,true,h1,h2,.inr rfl,by simpa using e⟩
  · cases e
 obtain⟨a,b,h1,h2,h3,h4⟩:=key
 have ma:=amI hr h1
 have Aq:=amI hq h2
 have dT:(Op.equal t (ρ x) (ρ y)).run P w= .ok (a&&b) w:=ayJ 9999 hu hd ma Aq h3
 have hg:=alG (P:=P) (w:=w) (op:=op) (t:=t) ma Aq hk
 have hb:=ayK ma Aq dT
 rcases bK with⟨rfl,rfl⟩ | ⟨rfl,rfl⟩
 · exact .same H (by simp only [execOp,ho];simp [hg,hb.1]) (.bool _) h4
 · exact .same H (by simp only [execOp,ho];simp [hg,hb.2]) (.bool _) h4
theorem ayL {kc:Nat}{a b:Value}{r:Bool}{t:TypeId}{d:TypeDesc}(he:qk kc a b=some r) (hu:P.underlying t=some d) (hk:oc d=some kc) (n:Nat):(Op.equalIn (n+1) t a b).run P w= .ok r w∧sd d=false:=by
 unfold qk at he
 split at he
 · rename_i k1 x k2 y
   cases ij:jE k1 k2 with
   | false=>rw [ij]at he;cases he
   | true=>
    rw [ij]at he
    simp only [cond_true,Option.some.injEq]at he
    obtain rfl:=uO ij
    subst he
    unfold oc at hk
    split at hk<;>first | (cases hk;done) | skip
    rw [Ak]
    exact⟨run_equalIn_int w n t k1 _ x y hu,rfl⟩
 · rename_i x y
   simp only [Option.some.injEq]at he
   subst he
   unfold oc at hk
   split at hk<;>first | (cases hk;done) | skip
   refine⟨?_,rfl⟩
   rw [run_equalIn_bool' w n t x y hu]
   cases x<;>cases y<;>rfl
 · rename_i x y
   simp only [Option.some.injEq]at he
   subst he
   unfold oc at hk
   split at hk<;>first | (cases hk;done) | skip
   rw [eqStr]
   exact⟨run_equalIn_string w n t x y hu,rfl⟩
 · cases he
theorem KY {kc:Nat}{a b a' b':Value}{r:Bool}(ha:VR φ a a') (hb:VR φ b b') (he:qk kc a b=some r):a'=a∧b'=b:=by
 unfold qk at he
 split at he<;>first | (cases he;done) | skip
 · exact⟨ha.lj,hb.lj⟩
 · exact⟨ha.yi,hb.yi⟩
 · exact⟨ha.od,hb.od⟩
theorem amJ:∀(fs:List Field) (n:Nat) (ks:List Nat) (xs ys:Array Value) (l m l' m':List Value) (r:Bool) (dp:Nat),H9 P n fs=some ks→o5 ks l m=some r→LR φ l l'→LR φ m m'→
 xs.toList.drop n=l'→ys.toList.drop n=m'→(Op.eqFields (dp+1) xs ys fs).run P w= .ok r w
 | [],n,ks,xs,ys,l,m,l',m',r,dp,hf,he,_,_,_,_=>by
  simp only [H9,Option.some.injEq]at hf
  subst hf
  cases l with
  | nil=>
   cases m with
   | nil=>simp only [o5,Option.some.injEq]at he;subst he;simp [Op.eqFields]
   | cons _ _=>simp [o5]at he
  | cons _ _=>simp [o5]at he
 | f::fs,n,ks,xs,ys,l,m,l',m',r,dp,hf,he,hl,hm,hx,hy=>by
  simp only [H9]at hf
  split at hf
  · rename_i hnm
    split at hf
    · rename_i kc ks' h1 h2
      cases hf
      unfold o5 at he
      split at he
      · rename_i q;cases q
      · rename_i kc' aI4 a l2 b m2 q
        cases q
        cases hl with | cons _ a' _ Lr ha hl=>
        cases hm with | cons _ b' _ m2' hb hm=>
        obtain⟨d,hd1,hd2⟩:∃d,P.underlying f.type=some d∧oc d=some kc:=by
         cases hu:P.underlying f.type with
         | none=>simp [hu]at h1
         | some d=>exact⟨d,rfl,by simpa [hu]using h1⟩
        have gx:xs[n]? =some a':=by
         have:(xs.toList.drop n)[0]? =some a':=by rw [hx];rfl
         simpa using this
        have gy:ys[n]? =some b':=by
         have:(ys.toList.drop n)[0]? =some b':=by rw [hy];rfl
         simpa using this
        have dx:xs.toList.drop (n+1)=Lr:=by
         have:=congrArg (List.drop 1) hx
         simpa using this
        have dy:ys.toList.drop (n+1)=m2':=by
         have:=congrArg (List.drop 1) hy
         simpa using this
        have hof:f.offset=n:=hnm.2
        cases hs:qk kc a b with
        | none=>rw [hs]at he;cases he
        | some r1=>
         obtain⟨rfl,rfl⟩:=KY ha hb hs
         obtain⟨dT,hag⟩:=ayL (w:=w) hs hd1 hd2 dp
         rw [hs]at he
         simp only [Op.eqFields,hnm.1,ne_eq,not_false_eq_true,if_true,hof]
         simp only [Sem.run_bind,part,Av hd1,hag,Result.andThen_ok,Bool.false_eq_true,if_false,gx,gy,Sem.run_pure,dT]
         cases r1 with
         | false=>cases he;simp
         | true=>
          simp only [Bool.not_true,Bool.false_eq_true,if_false]
          exact amJ fs (n+1) ks' xs ys l2 m2 Lr m2' r dp h2 he hl hm dx dy
      · cases he
    · cases hf
  · cases hf
theorem ajy {op:BinOp}{t u:TypeId}{x y:Operand}{fs:Array Field}{ks:List Nat}{ng:Bool}(ho:o.op= .binOp op t x y u) (bK:(op= .eql∧ng=false)∨(op= .neq∧ng=true)) (hu:P.underlying t=some (.struct fs))
 (hs:P.stoodInHeld t=false) (hq:P.eqGuardType P.depth t=false) (hf:H9 P 0 fs.toList=some ks) (H:HR P w0 φ h w) (hv:LR φ vs ([x,y].map ρ)) (e:acf ng ks vs h k=true):PR P w0 φ h ((execOp ρ o).run P w) fun v h'=>k v h'=true:=by
 obtain⟨p,q,aM,e1⟩:=lx e;clear e;subst aM;have e:=e1;clear e1
 obtain⟨p',q',hp,hr,hq'⟩:=hv.two
 simp at hp;obtain⟨e1,e2⟩:=hp;subst e1 e2
 obtain⟨a,aM,e1⟩:=Ie e;clear e;subst aM;have e:=e1;clear e1
 obtain⟨b,aM,e1⟩:=Ie e;clear e;subst aM;have e:=e1;clear e1
 obtain⟨a',hx,hla⟩:=hr.Fx
 obtain⟨b',hy,Cz⟩:=hq'.Fx
 unfold yB at e
 split at e
 · rename_i r he
   rw [lA]at e
   have UI:P.fieldsOf t=fs:=by unfold Program.fieldsOf;rw [hu]
   have dT:(Op.equal t (.agg a') (.agg b')).run P w= .ok r w:=by
    unfold Op.equal
    rw [show Op.maxDepth=9998+1+1 from rfl,run_equalIn_struct w _ t a' b' (by rw [UI];exact hu) hs,UI]
    exact amJ fs.toList 0 ks a' b' _ _ _ _ r 9998 hf he hla Cz (by simp) (by simp)
   have hg:(eqGuard op t x y (.agg a') (.agg b')).run P w= .ok () w:=by
    rcases bK with⟨rfl,rfl⟩ | ⟨rfl,rfl⟩<;>simp [eqGuard,hq]
   have hb:(binOp op t (.agg a') (.agg b')).run P w= .ok (.bool (bif ng then !r else r)) w:=by
    rcases bK with⟨rfl,rfl⟩ | ⟨rfl,rfl⟩<;>simp [binOp,dT]
   exact .same H (by simp only [execOp,ho,hx,hy];simp [hg,hb]) (.bool _) e
 · cases e
end
section
variable {P:Program}{w0 w:World}{φ:aY}{h:AH}{ρ:Operand→Value}{o:Oper}{vs:List Value}{k:KV}
theorem yJ {x rest vs d k}(e:vW x.isSome vs d k=true)(hv:LR φ vs ((x.toList++rest).map ρ)):
 ∃n mf,k n mf=true∧LR φ mf (rest.map ρ)∧((x=none∧n=d)∨∃y kd,x=some y∧ρ y= .int kd (Int.ofNat n)):=by
 cases x with
 | none=>exact⟨d,vs,e,by simpa using hv,.inl ⟨rfl,rfl⟩⟩
 | some y=>
  cases vs with
  | nil=>cases e
  | cons v vs=>
   obtain⟨kd,n,rfl,e⟩:=Ai (show vV v (fun n=>k n vs)=true from e);simp only [Option.toList_some,za2,zaU,zaW]at hv;cases hv with | cons _ v' _ l' h1 h2=>
   exact⟨n,vs,e,h2,.inr ⟨y,kd,rfl,h1.lj⟩⟩
theorem run_sliceBound (kd:IntKind)(n y:Nat)(c:BoundsCode)(hle:n≤y):(Instr.sliceBound (.int kd (n:Int)) y c).run P w= .ok n w:=by
 simp [Instr.sliceBound,asIntOf,hle]
theorem TN {isS len cap l hh m lo hi mx}(FL:mx.isSome=true→hi.isSome=true)
 (hl:(lo=none∧l=0)∨∃y kd,lo=some y∧ρ y= .int kd (Int.ofNat l)) (hh':(hi=none∧hh=len)∨∃y kd,hi=some y∧ρ y= .int kd (Int.ofNat hh)) (hm:(mx=none∧m=cap)∨∃y kd,mx=some y∧ρ y= .int kd (Int.ofNat m))
 (h1:l≤hh) (h2:hh≤m) (h3:m≤cap):(Instr.sliceBounds isS len cap (lo.map ρ) (hi.map ρ) (mx.map ρ)).run P w= .ok (l,hh,m) w:=by
 unfold Instr.sliceBounds;rcases hm with⟨rfl,rfl⟩ | ⟨ym,km,rfl,em⟩<;>rcases hh' with⟨rfl,rfl⟩ | ⟨yh,kh,rfl,eh⟩<;>rcases hl with⟨rfl,rfl⟩ | ⟨yl,kl,rfl,el⟩
 · simp
 · simp [el,run_sliceBound kl l hh _ h1]
 · simp [eh,run_sliceBound kh hh m _ h2]
 · simp [eh,el,run_sliceBound kh hh m _ h2,run_sliceBound kl l hh _ h1]
 · simp at FL
 · simp at FL
 · simp [em,eh,run_sliceBound km m cap _ h3,run_sliceBound kh hh m _ h2]
 · simp [em,eh,el,run_sliceBound km m cap _ h3,run_sliceBound kh hh m _ h2,run_sliceBound kl l hh _ h1]
theorem adU {a a':Addr}{l hh m sz:Nat}{k:Z→Bool}{r:Z→Bool}(hs:φ a.block≠none)(hm:m<bQ)(h1:l≤hh)(h2:hh≤m)(eU:0<m→AtR φ a a')
 (e:(bif Nat.beq m l then k (.slice (some ⟨a.block,a.off,none⟩) (hh-l) 0)else k (.slice (some ⟨a.block,a.off+l*sz,none⟩) (hh-l) (m-l)))=true):
 ∃v,k v=true∧VR φ v (.slice (if m=l then some a' else some (a'.add (l*sz))) (hh-l) (m-l)):=by
 by_cases AJ:m=l
 · subst AJ;rw [qh rfl,zam]at e;refine⟨_,e,?_⟩;simp only [if_true,Nat.sub_self];have:hh-m=0:=by omega
   rw [this];exact .sl _ _ _ _ _ hs (.inl ⟨by unfold bQ;omega,rfl,zad _,fun h=>by omega⟩)
 · rw [jt AJ,zak]at e;refine⟨_,e,?_⟩;rw [if_neg AJ];refine .sl _ _ _ _ _ hs (.inl ⟨by omega,rfl,by omega,fun h b d n hl=>?_⟩);obtain⟨e1,e2,e3⟩:=eU (by omega) b d n hl;rw [si a' e3];exact⟨e1,by show a'.off+l*sz+d=a.off+l*sz;omega,rfl⟩
theorem avj {t e':TypeId}{x:Operand}{lo hi mx:Option Operand}{sz:Nat}(ho:o.op= .slice t x lo hi mx)(hu:P.underlying t=some (.slice e'))(hz:iN P e'=some sz)(je:0<sz)(FL:mx.isSome=true→hi.isSome=true)
 (H:HR P w0 φ h w) (hv:LR φ vs ((x::(lo.toList++hi.toList++mx.toList)).map ρ)) (e:LJ sz lo.isSome hi.isSome mx.isSome vs h k=true):PR P w0 φ h ((execOp ρ o).run P w) fun v h'=>k v h'=true:=by
 obtain⟨i,fx,rfl⟩:=qZ hz;cases vs with
 | nil=>cases e
 | cons v vs=>
  simp only [zaW]at hv;cases hv with | cons _ v' _ l' hr hv=>
  have hv:LR φ vs ((lo.toList++(hi.toList++mx.toList)).map ρ):=by simpa using hv
  unfold LJ at e;dsimp only at e;rcases wZ e with⟨l0,c0,aM,e1⟩ | ⟨a,len,cap,aM,e1⟩<;>clear e<;>subst aM
  · obtain⟨rfl,rfl,hx⟩:=hr.yj;obtain⟨l,SA,e2,Am,hl⟩:=yJ e1 hv;obtain⟨hh,vs2,e3,uR,Ft⟩:=yJ (rest:=mx.toList) e2 Am;obtain⟨c1,e4⟩:=dX e3;simp only [zae]at c1;obtain⟨⟨⟨c1,c2⟩,c3⟩,c4⟩:=c1;obtain rfl:=zar c1;obtain rfl:=zar c2;have K7:mx=none:=by cases mx<;>simp_all
    subst K7;have hb:=TN (P:=P) (w:=w) (isS:=true) (len:=0) (cap:=0) (m:=0) FL hl Ft (.inl ⟨rfl,rfl⟩) (zad _) (zad _) (zad _);simp only [Option.map_none]at hb;refine .same H ?_ .qW e4;simp only [execOp,ho,hx];simp only [Instr.sliceAt,Instr.slice,Sem.run_bind,run_underlying hu,Result.andThen_ok];simp [hb,nJ fx]
  · obtain⟨a',eX,hx,hs,hc⟩:=hr.vD;obtain⟨l,SA,e2,Am,hl⟩:=yJ e1 hv;obtain⟨hh,vs2,e3,uR,Ft⟩:=yJ (rest:=mx.toList) e2 Am;obtain⟨m,vs3,e4,hv3,hm⟩:=yJ (x:=mx) (rest:=[]) e3 (by simpa using uR);obtain⟨c1,e5⟩:=dX e4;simp only [zae]at c1;obtain⟨⟨⟨⟨⟨_,c1⟩,c2⟩,c3⟩,c4⟩,c5⟩:=c1;have c1:=zaa c1;have c2:=zaa c2;unfold AA at e5;rw [dG]at e5
    have fin:∀{m':Nat}{v:Z},((mx=none∧m'=eX)∨∃y kd,mx=some y∧ρ y= .int kd (Int.ofNat m'))→hh≤m'→m'≤eX→k v h=true→
     VR φ v (.slice (if m'=l then some a' else some (a'.add (l*i.size))) (hh-l) (m'-l))→PR P w0 φ h ((execOp ρ o).run P w) fun v h'=>k v h'=true:=by
     intro m' v q1 q2 q3 q4 q5;have hb:=TN (P:=P) (w:=w) (isS:=true) (len:=len) (cap:=eX) (m:=m') FL hl Ft q1 c1 q2 q3;refine .same H ?_ q5 q4;simp only [execOp,ho,hx];simp only [Instr.sliceAt,Instr.slice,Sem.run_bind,run_underlying hu,Result.andThen_ok];simp [hb,nJ fx]
     try (split<;>rfl)
    rcases hc with⟨g1,g2,g2',g3⟩ | ⟨sz,g1,g2,g3,g4⟩
    · -- tG capacity is known
      have S4:Nat.ble bQ cap=false:=by rw [B6];simp;omega
      rw [S4]at e5 c4;simp only [Bool.false_and,zak]at e5;obtain⟨xk,e5⟩:=dX e5;have xk:m<bQ:=zaa xk;rw [dG,dG]at e5;subst g2
      have hmc:m≤eX:=by
       rcases hm with⟨_,rfl⟩ | ⟨y,kd,hy,_⟩
       · exact zad _
       · rw [hy]at c4;exact zaa (by simpa using c4)
      obtain⟨v,q1,q2⟩:=adU (k:=fun v=>k v h) (r:=fun _=>true) (sz:=i.size) hs xk c1 c2 (fun hp=>g3 (by omega)) e5;exact fin hm c2 hmc q1 q2
    · -- it is not
      have hb:Nat.ble bQ cap=true:=by rw [B6];simp;omega
      rw [hb]at e5 c4 c5 c3;simp only [zas,Bool.or_false]at c3;have c3:=zaa c3;have c5:=zar (by simpa using c5:Nat.beq cap (Nat.add bQ i.size)=true);have ayM:sz=i.size:=by have:bQ+sz=bQ+i.size:=g1▸c5;omega
      subst ayM;rcases hm with⟨K7,rfl⟩ | ⟨y,kd,hy,hym⟩
      · subst K7;simp only [Option.isSome_none,zaZ,zbo,zam,dG]at e5;refine fin (m':=eX) (.inl ⟨rfl,rfl⟩) (by omega) (zad _) e5 ?_
        by_cases AJ:eX=l
        · rw [if_pos AJ];refine .sl _ _ _ _ _ hs (.inr ⟨i.size,g1,g2,by show hh-l≤eX-l;omega,fun hp=>by omega⟩)
        · rw [if_neg AJ];refine .sl _ _ _ _ _ hs (.inr ⟨i.size,g1,g2,by show hh-l≤eX-l;omega,fun hp=>⟨fun b d n hl=>?_,fun b d n hl=>?_⟩⟩)
          · obtain⟨e1,e2,e3⟩:=(g4 (by omega)).1 b d n hl;rw [si a' e3];exact⟨e1,by show a'.off+l*i.size+d=a.off+l*i.size;omega,rfl⟩
          · have h5:=(g4 (by omega)).2 b d n hl;obtain⟨e1,e2,e3⟩:=(g4 (by omega)).1 b d n hl;rw [si a' e3];show a'.off+l*i.size+(eX-l)*i.size≤n;have:l*i.size+(eX-l)*i.size=eX*i.size:=by rw [←zaR];congr 1;omega
            omega
      · have hsm:mx.isSome=true:=by rw [hy];rfl
        rw [hsm]at e5 c4;simp only [zas,Bool.and_false,zak]at e5;have AJ:m≤len:=zaa (by simpa using c4);obtain⟨xk,e5⟩:=dX e5;have xk:m<bQ:=zaa xk;rw [dG,dG]at e5;obtain⟨v,q1,q2⟩:=adU (k:=fun v=>k v h) (r:=fun _=>true) (sz:=i.size) hs xk c1 c2 (fun hp=>(g4 (by omega)).1) e5;exact fin (.inr ⟨y,kd,hy,hym⟩) c2 (by omega) q1 q2
theorem avk {t e':TypeId}{x:Operand}{lo hi mx:Option Operand}{sz n:Nat}(ho:o.op= .slice t x lo hi mx)(hu:P.underlying t=some (.array n e'))(hz:iN P e'=some sz)(FL:mx.isSome=true→hi.isSome=true)
 (H:HR P w0 φ h w) (hv:LR φ vs ((x::(lo.toList++hi.toList++mx.toList)).map ρ)) (e:LK n sz lo.isSome hi.isSome mx.isSome vs h k=true):PR P w0 φ h ((execOp ρ o).run P w) fun v h'=>k v h'=true:=by
 obtain⟨i,fx,rfl⟩:=qZ hz;cases vs with
 | nil=>cases e
 | cons v vs=>
  simp only [zaW]at hv;cases hv with | cons _ v' _ l' hr hv=>
  have hv:LR φ vs ((lo.toList++(hi.toList++mx.toList)).map ρ):=by simpa using hv
  unfold LK at e;dsimp only at e;obtain⟨a,aM,e1⟩:=qY e;clear e;subst aM;obtain⟨a',hx,hs,eU⟩:=hr.oZ;obtain⟨l,SA,e2,Am,hl⟩:=yJ e1 hv;obtain⟨hh,vs2,e3,uR,Ft⟩:=yJ (rest:=mx.toList) e2 Am;obtain⟨m,vs3,e4,hv3,hm⟩:=yJ (x:=mx) (rest:=[]) e3 (by simpa using uR);obtain⟨c1,e5⟩:=dX e4;simp only [zae]at c1;obtain⟨⟨⟨_,c1⟩,c2⟩,c3⟩:=c1;have c1:=zaa c1;have c2:=zaa c2;have c3:=zaa c3;unfold AA at e5;rw [dG]at e5;simp only [zas,Bool.and_false,zak]at e5;obtain⟨xk,e5⟩:=dX e5;have xk:m<bQ:=zaa xk;rw [dG,dG]at e5;obtain⟨v,q1,q2⟩:=adU (k:=fun v=>k v h) (r:=fun _=>true) (sz:=i.size) hs xk c1 c2 (fun _=>eU) e5;have hb:=TN (P:=P) (w:=w) (isS:=false) (len:=n) (cap:=n) (m:=m) FL hl Ft hm c1 c2 c3;refine .same H (v':=.slice (if m=l then some a' else some (a'.add (l*i.size))) (hh-l) (m-l)) ?_ q2 q1;simp only [execOp,ho,hx];simp only [Instr.sliceAt,Sem.run_bind,run_underlying hu,Result.andThen_ok,Instr.sureAddr];simp [hb,nJ fx]
  try (split<;>rfl)
end
end Go.Ve
