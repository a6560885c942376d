/- Part 12: VEval, part 52: for whatever can be read as plain data there is an abstract heap that stands for it. Condition: the types are plain. And what follows it. -/
import Derived.Test.YteeibihhdldjfaaGreatDoorVeK
import Derived.DataReads
set_option linter.unusedVariables false
set_option linter.unusedSimpArgs false
namespace Go.Ve
open Go.ChangeShapes Go.WideShapes Go.ChangeAt Go.RowKit
section
variable {H:Type}{enc:TypeId×Value→H}{P:Program}
def Ga (P:Program):Nat→List Field→Nat→Bool
 | o,[],n=>o==n
 | o,f::fs,n=>f.offset==o&&Ga P (o+P.cellsOf f.type) fs n
def zJ (P:Program):Nat→TypeId→Bool
 | 0,_=>false
 | n+1,t=>match P.underlying t with
  | some .bool=>true
  | some (.int _)=>true
  | some .string=>true
  | some (.slice e)=>decide (0<P.cellsOf e)&&zJ P n e
  | some (.struct fs)=>Ga P 0 fs.toList (P.cellsOf t)&&fs.toList.all fun f=>zJ P n f.type
  | some (.array k e)=>(k*P.cellsOf e==P.cellsOf t)&&zJ P n e
  | _=>false
def Cs (P:Program) (W:World) (t:TypeId) (cY:List Value) (d:DataW H):Prop :=
 ∀(φ:aO) (h:AH),HR P W φ h W→∃φ' h' cs,HR P W φ' h' W∧Ext h.nx φ φ'∧dT h h'∧LR φ' cs cY∧AD P h' t cs d
theorem adP {W:World}{t:TypeId}:∀(l:List (List Value×DataW H)),(∀x∈l,Cs P W t x.1 x.2)→∀(φ:aO) (h:AH),HR P W φ h W→
 ∃(φ':aO) (h':AH) (dN:List (List Value)),HR P W φ' h' W∧Ext h.nx φ φ'∧dT h h'∧dN.length=l.length∧∀(i:Nat) (cs:List Value) (x:List Value×DataW H),dN[i]? =some cs→l[i]? =some x→LR φ' cs x.1∧AD P h' t cs x.2:=by
 intro l
 induction l with
 | nil=>intro _ φ h R;exact⟨φ,h,[],R,Ext.refl _ _,dT.refl _,rfl,fun i cs x h1=>by simp at h1⟩
 | cons x l ih =>
  intro gz φ h R
  obtain⟨φ1,h1,cs,R1,E1,K1,L1,A1⟩:=gz x List.mem_cons_self φ h R
  obtain⟨φ2,h2,dN,R2,E2,K2,hl,hA⟩:=ih (fun y hy=>gz y (List.mem_cons_of_mem _ hy)) φ1 h1 R1
  refine⟨φ2,h2,cs::dN,R2,E1.trans E2 K1.nx,K1.trans K2,by simp [hl],fun i c y g1 g2=> ?_⟩
  cases i with
  | zero =>
   simp at g1 g2
   subst g1;subst g2
   exact⟨LR.ext E2 L1,A1.dq K2 R1.top⟩
  | succ i=>exact hA i c y (by simpa using g1) (by simpa using g2)
theorem Mo {α:Type}:∀(dN:List (List α)) (z:Nat),(∀cs∈dN,cs.length=z)→∀(i j:Nat) (cs:List α),dN[i]? =some cs→j<z→dN.flatten[i*z+j]? =cs[j]?
 | [],z,_,i,j,cs,h,_=>by simp at h
 | c::dN,z,hz,0,j,cs,h,hj=>by
  simp at h;subst h
  have:c.length=z:=hz c List.mem_cons_self
  rw [List.flatten_cons,Nat.zero_mul,Nat.zero_add,List.getElem?_append_left (by omega)]
 | c::dN,z,hz,i+1,j,cs,h,hj=>by
  have hc:c.length=z:=hz c List.mem_cons_self
  rw [List.flatten_cons,List.getElem?_append_right (by rw [hc,Nat.add_mul];omega)]
  have:=Mo dN z (fun x hx=>hz x (List.mem_cons_of_mem _ hx)) i j cs (by simpa using h) hj
  rw [←this]
  congr 1
  rw [hc,Nat.add_mul];omega
theorem Vi {α:Type}:∀(dN:List (List α)) (z:Nat),(∀cs∈dN,cs.length=z)→dN.flatten.length=dN.length*z
 | [],z,_=>by simp
 | c::dN,z,hz=>by
  rw [List.flatten_cons,List.length_append,Vi dN z (fun x hx=>hz x (List.mem_cons_of_mem _ hx)),hz c List.mem_cons_self,List.length_cons,Nat.add_mul];omega
theorem anb {W:World}{cY:List Value}{n:Nat}(fm:cY.length=n):∀(fs:List Field) (ds:List (DataW H)) (o:Nat),Ga P o fs n=true→ds.length=fs.length→
    (∀(i:Nat) (f:Field) (d:DataW H),fs[i]? =some f→ds[i]? =some d→Cs P W f.type ((cY.drop f.offset).take (P.cellsOf f.type)) d)→∀(φ:aO) (h:AH),HR P W φ h W→
    ∃φ' h' cs,HR P W φ' h' W∧Ext h.nx φ φ'∧dT h h'∧o≤n∧LR φ' cs (cY.drop o)∧∀(i:Nat) (f:Field) (d:DataW H),fs[i]? =some f→ds[i]? =some d→o≤f.offset∧AD P h' f.type ((cs.drop (f.offset-o)).take (P.cellsOf f.type)) d:=by
  intro fs
  induction fs with
  | nil =>
    intro ds o ht hl _ φ h R
    simp only [Ga,beq_iff_eq]at ht
    exact⟨φ,h,[],R,Ext.refl _ _,dT.refl _,by omega,by rw [List.drop_eq_nil_of_le (by omega)];exact .nil,fun i f d h1=>by simp at h1⟩
  | cons f fs ih =>
    intro ds o ht hl gz φ h R
    simp only [Ga,Bool.and_eq_true,beq_iff_eq]at ht
    obtain⟨ho,ht⟩:=ht
    cases ds with
    | nil=>simp at hl
    | cons d ds =>
      obtain⟨φ1,h1,c1,R1,E1,K1,L1,A1⟩:=gz 0 f d rfl rfl φ h R
      obtain⟨φ2,h2,c2,R2,E2,K2,hon,L2,A2⟩:=ih ds (o+P.cellsOf f.type) ht (by simpa using hl) (fun i f' d' g1 g2=>gz (i+1) f' d' (by simpa using g1) (by simpa using g2)) φ1 h1 R1
      rw [ho]at L1
      have hlen:c1.length=P.cellsOf f.type:=by
        rw [L1.length,List.length_take,List.length_drop];omega
      refine⟨φ2,h2,c1++c2,R2,E1.trans E2 K1.nx,K1.trans K2,by omega, ?_,fun i f' d' g1 g2=> ?_⟩
      · have:cY.drop o=(cY.drop o).take (P.cellsOf f.type)++cY.drop (o+P.cellsOf f.type):=by
          rw [←List.drop_drop,List.take_append_drop]
        rw [this]
        exact LR.append L2 (LR.ext E2 L1)
      · cases i with
        | zero =>
          simp at g1 g2
          subst g1;subst g2
          refine⟨by omega, ?_⟩
          rw [ho,Nat.sub_self,List.drop_zero,List.take_append_of_le_length (by omega),List.take_of_length_le (by omega)]
          exact A1.dq K2 R1.top
        | succ i =>
          obtain⟨a1,a2⟩:=A2 i f' d' (by simpa using g1) (by simpa using g2)
          refine⟨by omega, ?_⟩
          rw [List.drop_append,List.drop_eq_nil_of_le (by omega),List.nil_append]
          rw [show f'.offset-o-c1.length=f'.offset-(o+P.cellsOf f.type) by omega]
          exact a2
theorem anc {W:World}{t e:TypeId}{a:Addr}{len cap:Nat}{ja rest:List (DataW H)}(hu:P.underlying t=some (.slice e)) (hz:0<P.cellsOf e) (hlen:len≤cap) (jE:cap≤maxLen) (hn:ja.length=len) (hr:rest.length=cap-len)
 (Gb:∀(i:Nat) (d:DataW H),(ja++rest)[i]? =some d→∃cY,W.cells? 0 (a.add (i*P.cellsOf e)) (P.cellsOf e)=some cY∧Cs P W e cY d):Cs P W t [.slice (some a) len cap] (.slice ja rest):=by
 intro φ h R
 have ane:cap<bg:=Nat.lt_of_le_of_lt jE (by decide)
 rcases Nat.eq_zero_or_pos cap with h0 | h0
 · -- no cell at all
   obtain⟨R1,E1,K1⟩:=R.ana
   have he:ja=[]:=List.eq_nil_of_length_eq_zero (by omega)
   have qZ:rest=[]:=List.eq_nil_of_length_eq_zero (by omega)
   subst he;subst qZ
   have lD:len=0:=by omega
   subst lD;subst h0
   refine⟨_,_,[.slice (some ⟨h.nx,0,none⟩) 0 0],R1,E1,K1,.cons _ _ _ _ (.sl _ _ _ _ _ (by simp [aO.put]) (.inl ⟨by decide,rfl,Nat.le_refl _,fun hh=>absurd hh (Nat.lt_irrefl 0)⟩)) .nil, ?_⟩
   exact .sl t e h.nx 0 0 0 [] [] [] hu rfl (Nat.le_refl _) (Nat.zero_le _) rfl (fun cs fm=>by cases fm) (AH.Ub _ _ _) (fun i cs d h1=>by simp at h1)
 · have gz:(ja++rest).length=cap:=by rw [List.length_append];omega
   obtain⟨d0,mS⟩:∃d,(ja++rest)[0]? =some d:=⟨(ja++rest)[0]'(by omega),List.getElem?_eq_getElem (by omega)⟩
   obtain⟨c0,ze,_⟩:=Gb 0 d0 mS
   obtain⟨_,awj,anf⟩:=World.cells?_some ze
   have px:=anf 0 hz
   rw [show(a.add (0*P.cellsOf e)).add 0=a by rw [Nat.zero_mul];rfl]at px
   have ang:c0[0]? =some (c0[0]'(by omega)):=List.getElem?_eq_getElem (by omega)
   rw [ang]at px
   obtain⟨arr,ty,fr,hw,Mq⟩:∃arr ty fr,W.heap[a.block]? =some (.cells arr ty fr)∧a.spot=none:=by
    unfold World.cell? at px
    split at px
    · rename_i arr ty fr hh
      refine⟨arr,ty,fr,hh, ?_⟩
      split at px
      · cases px
      · rename_i hs;simpa using hs
    · cases px
   have anh:∀(j:Nat),W.cell? (a.add j)=arr[a.off+j]? :=by
    intro j
    rw [nR a Mq]
    unfold World.cell?
    simp only [hw];rfl
   have Vj:∀(i:Nat) (d:DataW H),ja[i]? =some d→∃cY,W.cells? 0 (a.add (i*P.cellsOf e)) (P.cellsOf e)=some cY∧Cs P W e cY d:=fun i d hd=>Gb i d (by rw [List.getElem?_append_left (List.getElem?_eq_some_iff.1 hd).1];exact hd)
   let l:List (List Value×DataW H):=(List.range len).map fun i=>((W.cells? 0 (a.add (i*P.cellsOf e)) (P.cellsOf e)).getD [],ja.getD i .nil)
   have pa:l.length=len:=by simp [l]
   have qw:∀(i:Nat) (d:DataW H),ja[i]? =some d→l[i]? =some ((W.cells? 0 (a.add (i*P.cellsOf e)) (P.cellsOf e)).getD [],d):=by
    intro i d hd
    have hi:i<len:=by rw [←hn];exact(List.getElem?_eq_some_iff.1 hd).1
    simp [l,hi,List.getD,hd]
   obtain⟨φ1,h1,dN,R1,E1,K1,lC,hA⟩:=adP (P:=P) (W:=W) (t:=e) l (fun x hx=>by
    obtain⟨i,hi⟩:=List.getElem?_of_mem hx
    have w4:i<len:=by rw [←pa];exact(List.getElem?_eq_some_iff.1 hi).1
    have hd:ja[i]? =some (ja[i]'(by omega)):=List.getElem?_eq_getElem (by omega)
    obtain⟨cY,g1,g2⟩:=Vj i _ hd
    rw [qw i _ hd]at hi
    cases hi
    rw [g1]
    exact g2) φ h R
   have sA:∀cs∈dN,cs.length=P.cellsOf e:=by
    intro cs fm
    obtain⟨i,hi⟩:=List.getElem?_of_mem fm
    have w4:i<len:=by rw [←pa,←lC];exact(List.getElem?_eq_some_iff.1 hi).1
    have hd:ja[i]? =some (ja[i]'(by omega)):=List.getElem?_eq_getElem (by omega)
    obtain⟨cY,g1,_⟩:=Vj i _ hd
    obtain⟨L1,_⟩:=hA i cs _ hi (qw i _ hd)
    rw [g1]at L1
    rw [L1.length]
    exact(World.cells?_some g1).2.1
   have rj:a.block<W.heap.size:=(Array.getElem?_eq_some_iff.1 hw).1
   obtain⟨h2,R2,E2,K2,qk,kG⟩:=R1.look (o:=a.off) (l:=dN.flatten) hw rj (fun i v hv=>by
    have Ct:=Vi dN _ sA
    have hi:i<dN.length*P.cellsOf e:=by rw [←Ct];exact(List.getElem?_eq_some_iff.1 hv).1
    have vf:=Nat.div_add_mod i (P.cellsOf e)
    have Gc:=Nat.mod_lt i hz
    have hq:i / P.cellsOf e<dN.length:=Nat.div_lt_of_lt_mul (by rw [Nat.mul_comm];exact hi)
    have fm:dN[i / P.cellsOf e]? =some (dN[i / P.cellsOf e]):=List.getElem?_eq_getElem hq
    have Gd:=Mo dN _ sA _ (i % P.cellsOf e) _ fm Gc
    rw [show i / P.cellsOf e*P.cellsOf e+i % P.cellsOf e=i by rw [Nat.mul_comm];exact vf]at Gd
    rw [Gd]at hv
    have w4:i / P.cellsOf e<len:=by omega
    have hd:ja[i / P.cellsOf e]? =some (ja[i / P.cellsOf e]'(by omega)):=List.getElem?_eq_getElem (by omega)
    obtain⟨cY,g1,_⟩:=Vj _ _ hd
    obtain⟨L1,_⟩:=hA _ _ _ fm (qw _ _ hd)
    rw [g1]at L1
    obtain⟨v',a1,a2⟩:=L1.get _ _ hv
    obtain⟨_,b1,b2⟩:=World.cells?_some g1
    have b3:=b2 (i % P.cellsOf e) Gc
    have Mr:cY[i % P.cellsOf e]? =some v':=a1
    rw [Mr]at b3
    refine⟨v', ?_,a2⟩
    have e1:(a.add (i / P.cellsOf e*P.cellsOf e)).add (i % P.cellsOf e)=a.add i:=by
     rw [nR a Mq,nR _ rfl,nR a Mq]
     simp only [Addr.mk.injEq,true_and,and_true]
     rw [Nat.mul_comm];omega
    rw [e1,anh]at b3
    exact b3)
   refine⟨_,h2,[.slice (some ⟨h1.nx,a.off,none⟩) len cap],R2,E1.trans E2 K1.nx,K1.trans K2,.cons _ _ _ _ (.sl _ _ _ _ _ (by simp [aO.put]) (.inl ⟨ane,rfl,hlen,fun _=> ?_⟩)) .nil, ?_⟩
   · intro b d n hl
     have iM:(φ1.put h1.nx (.live a.block 0 arr.size)) h1.nx=some (.live b d n):=hl
     rw [aO.jG]at iM
     cases iM
     exact⟨rfl,rfl,Mq⟩
   · exact .sl t e h1.nx a.off len cap ja rest dN hu hn hlen jE (by omega) sA qk (fun i cs d g1 g2=>((hA i cs _ g1 (qw i d g2)).2).dq K2 R1.top)
theorem LR.Ms {φ:aO}{v:Value}(h:VR φ v v):LR φ [v] [v]:=.cons _ _ _ _ h .nil
theorem adQ {α:Type}{l:List α}{o n j:Nat}(hj:j<n):((l.drop o).take n)[j]? =l[o+j]? :=by
 rw [List.getElem?_take,if_pos hj,List.getElem?_drop]
theorem ani {W:World}:∀(n:Nat) (t:TypeId) (cY:List Value) (x:DataW H×List MemPlace) (fuel:Nat),zJ P n t=true→DataW.trod enc P W 0 (fun _=>true) true fuel t cY=some x→Cs P W t cY x.1:=by
  intro n
  induction n with
  | zero=>intro t cY x fuel hp;cases hp
  | succ n ih =>
    intro t cY x fuel hp ht
    rw [zJ]at hp
    cases hu:P.underlying t with
    | none=>rw [hu]at hp;cases hp
    | some ty =>
      rw [hu]at hp
      cases ty<;>first | (exact Bool.noConfusion hp) | skip
      case bool =>
        obtain⟨b,rfl,rfl⟩:=DataW.trod_bool hu ht
        exact fun φ h R=>⟨φ,h,_,R,Ext.refl _ _,dT.refl _,LR.Ms (.bool _),.bool t _ hu⟩
      case int k =>
        obtain⟨m,rfl,rfl,hw⟩:=DataW.trod_int hu ht
        exact fun φ h R=>⟨φ,h,_,R,Ext.refl _ _,dT.refl _,LR.Ms (.int _ _),.int t _ _ hu hw⟩
      case string =>
        obtain⟨s,rfl,rfl,hs⟩:=DataW.trod_string hu ht
        exact fun φ h R=>⟨φ,h,_,R,Ext.refl _ _,dT.refl _,LR.Ms (.str _),.str t _ hu hs⟩
      case slice e =>
        simp only [Bool.and_eq_true,decide_eq_true_eq]at hp
        rcases DataW.trod_slice hu ht with⟨rfl,rfl⟩ | ⟨a,len,cap,ja,rest,m,_,rfl,rfl,_,Ma,TH,Gb,he,hr,_⟩
        · exact fun φ h R=>⟨φ,h,_,R,Ext.refl _ _,dT.refl _,LR.Ms .oe,.oe t e hu⟩
        · obtain⟨hrl,hr⟩:=hr rfl
          refine anc hu hp.1 Ma TH (by simp [Gb]) (by simp [hrl]) fun i d hd=> ?_
          rw [←List.map_append,List.getElem?_map,Option.map_eq_some_iff]at hd
          obtain⟨y,hy,rfl⟩:=hd
          have key:(W.cells? 0 (a.add (i*P.cellsOf e)) (P.cellsOf e)).bind (DataW.trod enc P W 0 (fun _=>true) true m e)=some y:=by
            rcases Nat.lt_or_ge i len with h1 | h1
            · rw [he i h1]
              rw [List.getElem?_append_left (by omega)]at hy
              exact hy
            · have hi:i<ja.length+rest.length:=by
                have:=(List.getElem?_eq_some_iff.1 hy).1;simpa using this
              have:=hr (i-len) (by omega)
              rw [show len+(i-len)=i by omega]at this
              rw [this]
              rw [List.getElem?_append_right (by omega),Gb]at hy
              exact hy
          rw [Option.bind_eq_some_iff]at key
          obtain⟨cY,h1,h2⟩:=key
          exact⟨cY,h1,ih e cY y m hp.2 h2⟩
      case struct fs =>
        simp only [Bool.and_eq_true]at hp
        obtain⟨xs,m,_,rfl,hl,pB,hx⟩:=DataW.trod_struct hu ht
        intro φ h R
        obtain⟨φ1,h1,cs,R1,E1,K1,_,L1,A1⟩:=anb (P:=P) (W:=W) hl fs.toList (xs.map (·.1)) 0 hp.1 (by simp [pB]) (fun i f d g1 g2=>by
          rw [List.getElem?_map,Option.map_eq_some_iff]at g2
          obtain⟨y,hy,rfl⟩:=g2
          have g1':fs[i]? =some f:=by simpa using g1
          have:=hx i f g1'
          rw [hy]at this
          exact ih f.type _ y m (List.all_eq_true.1 hp.2 f (List.mem_of_getElem? g1)) this) φ h R
        rw [List.drop_zero]at L1
        refine⟨φ1,h1,cs,R1,E1,K1,L1,.struct t fs cs _ hu (by rw [L1.length];exact hl) (by simp [pB]) fun i f d g1 g2=> ?_⟩
        have:=(A1 i f d (by simpa using g1) g2).2
        rwa [Nat.sub_zero]at this
      case array k e =>
        simp only [Bool.and_eq_true,beq_iff_eq]at hp
        obtain⟨xs,m,_,rfl,hl,pB,hx⟩:=DataW.trod_array hu ht
        intro φ h R
        let l:List (List Value×DataW H):=(List.range k).map fun i=>((cY.drop (i*P.cellsOf e)).take (P.cellsOf e),(xs.map (·.1)).getD i .nil)
        have qw:∀(i:Nat) (d:DataW H),(xs.map (·.1))[i]? =some d→l[i]? =some ((cY.drop (i*P.cellsOf e)).take (P.cellsOf e),d):=by
          intro i d hd
          have hi:i<k:=by rw [←pB];have:=(List.getElem?_eq_some_iff.1 hd).1;simpa using this
          show((List.range k).map fun i=>((cY.drop (i*P.cellsOf e)).take (P.cellsOf e),(xs.map (·.1)).getD i .nil))[i]? =_
          rw [List.getElem?_map,List.getElem?_range hi,Option.map_some,List.getD_eq_getElem?_getD,hd]
          rfl
        have pa:l.length=k:=by simp [l]
        have Cu:∀i,i<k→∃y,xs[i]? =some y∧(xs.map (·.1))[i]? =some y.1:=fun i hi=>⟨xs[i]'(by omega),List.getElem?_eq_getElem (by omega),by rw [List.getElem?_map,List.getElem?_eq_getElem (by omega)];rfl⟩
        obtain⟨φ1,h1,dN,R1,E1,K1,lC,hA⟩:=adP (P:=P) (W:=W) (t:=e) l (fun x gD=>by
          obtain⟨i,hi⟩:=List.getElem?_of_mem gD
          have w4:i<k:=by rw [←pa];exact(List.getElem?_eq_some_iff.1 hi).1
          obtain⟨y,Mt,Ge⟩:=Cu i w4
          rw [qw i _ Ge]at hi
          cases hi
          have:=hx i w4
          rw [Mt]at this
          exact ih e _ y m hp.2 this) φ h R
        have pb:∀i,i<k→((cY.drop (i*P.cellsOf e)).take (P.cellsOf e)).length=P.cellsOf e:=by
          intro i hi
          rw [List.length_take,List.length_drop,hl,←hp.1]
          have:(i+1)*P.cellsOf e≤k*P.cellsOf e:=Nat.mul_le_mul_right _ hi
          rw [Nat.add_mul]at this
          omega
        have sA:∀cs∈dN,cs.length=P.cellsOf e:=by
          intro cs fm
          obtain⟨i,hi⟩:=List.getElem?_of_mem fm
          have w4:i<k:=by rw [←pa,←lC];exact(List.getElem?_eq_some_iff.1 hi).1
          obtain⟨y,Mt,Ge⟩:=Cu i w4
          obtain⟨L1,_⟩:=hA i cs _ hi (qw i _ Ge)
          rw [L1.length];exact pb i w4
        have Ct:=Vi dN _ sA
        have anj:dN.length=k:=by omega
        have adR:dN.flatten.length=P.cellsOf t:=by rw [Ct,anj,hp.1]
        refine⟨φ1,h1,dN.flatten,R1,E1,K1,LR.RK (by omega) fun i v v' g1 g2=> ?_,.arr t e k _ _ hu adR (by simp [pB]) fun i d g=> ?_⟩
        · have hi:i<k*P.cellsOf e:=by rw [hp.1,←adR];exact(List.getElem?_eq_some_iff.1 g1).1
          have hz:0<P.cellsOf e:=by
            rcases Nat.eq_zero_or_pos (P.cellsOf e)with h0 | h0
            · rw [h0,Nat.mul_zero]at hi;omega
            · exact h0
          have Gc:=Nat.mod_lt i hz
          have hq:i / P.cellsOf e<k:=Nat.div_lt_of_lt_mul (by rw [Nat.mul_comm];exact hi)
          have fm:dN[i / P.cellsOf e]? =some (dN[i / P.cellsOf e]'(by omega)):=List.getElem?_eq_getElem (by omega)
          have Gd:=Mo dN _ sA _ (i % P.cellsOf e) _ fm Gc
          have vf:=Nat.div_add_mod i (P.cellsOf e)
          rw [show i / P.cellsOf e*P.cellsOf e+i % P.cellsOf e=i by rw [Nat.mul_comm];exact vf]at Gd
          rw [Gd]at g1
          obtain⟨y,Mt,Ge⟩:=Cu _ hq
          obtain⟨L1,_⟩:=hA _ _ _ fm (qw _ _ Ge)
          obtain⟨u,a1,a2⟩:=L1.get _ _ g1
          have Mr:((cY.drop (i / P.cellsOf e*P.cellsOf e)).take (P.cellsOf e))[i % P.cellsOf e]? =some u:=a1
          rw [adQ Gc,show i / P.cellsOf e*P.cellsOf e+i % P.cellsOf e=i by rw [Nat.mul_comm];exact vf,g2]at Mr
          cases Mr
          exact a2
        · have hi:i<k:=by rw [←pB];have:=(List.getElem?_eq_some_iff.1 g).1;simpa using this
          have fm:dN[i]? =some (dN[i]'(by omega)):=List.getElem?_eq_getElem (by omega)
          have e1:((dN.flatten.drop (i*P.cellsOf e)).take (P.cellsOf e))=dN[i]'(by omega):=by
            refine List.ext_getElem? fun j=> ?_
            rcases Nat.lt_or_ge j (P.cellsOf e)with hj | hj
            · rw [adQ hj];exact Mo dN _ sA i j _ fm hj
            · rw [List.getElem?_eq_none (by rw [List.length_take];omega),List.getElem?_eq_none (by rw [sA _ (List.getElem_mem _)];omega)]
          rw [e1]
          exact(hA i _ _ fm (qw i _ g)).2
end
end Go.Ve
namespace Go.Ve
open Go.RowKit
open Classical
noncomputable section
def AH.nT (h:AH) (b:Nat) (o:AO):AH:=⟨h.nx,h.ob.set b (some o)⟩
def AH.ff (h:AH) (o:AO):AH:=⟨h.nx+1,h.ob.set h.nx (some o)⟩
theorem AH.uX (h:AH) (b:Nat) (o:AO) (f:Nat):(h.nT b o).ob.get f=if f=b then some o else h.ob.get f:=by
 show(h.ob.set b (some o)).get f=_
 rw [NT.eK]
theorem AH.sU (h:AH) (o:AO) (f:Nat):(h.ff o).ob.get f=if f=h.nx then some o else h.ob.get f:=by
 show(h.ob.set h.nx (some o)).get f=_
 rw [NT.eK]
theorem AH.Cj {h:AH}(H:h.Ok) (o:AO):(h.ff o).Ok:=fun f hf=>by
 have:h.nx+1≤f:=hf
 rw [AH.sU,if_neg (by omega)]
 exact H f (by omega)
theorem AH.L6 {h:AH}(H:h.Ok){b:Nat}(hb:b<h.nx) (o:AO):(h.nT b o).Ok:=fun f hf=>by
 have:h.nx≤f:=hf
 rw [AH.uX,if_neg (by omega)]
 exact H f this
theorem dT.ff (h:AH) (o:AO):dT h (h.ff o):=⟨Nat.le_succ _,fun f hf=>by rw [AH.sU,if_neg (by omega)]⟩
abbrev LO:=LoopState→Option Code→AO
def isL (lo:LO):Prop:=∃fn tm ps a b d nt,∀st pd,lo st pd= .loop ⟨st,pd,fn,tm,ps,a,b,d,nt⟩
def nB:List Nat→W→W
 | [],K=>K
 | r::rs,K=>fun h=>h.ob.get r=some (.defs false)∧nB rs K (h.nT r (.defs true))
def jB (rs:List Nat):DS:=⟨rs.map .qT,.off⟩
def se:Value→W:=fun _ _=>False
def xl:List (Nat×W)→Nat→W
 | [],_=>fun _=>False
 | (j,A)::l,id=>bif Nat.beq id j then A else xl l id
def yF (pd:Option Code) (N Rt:W) (X:List (Nat×W)):W:=match pd with
 | none=>N
 | some .ret=>Rt
 | some (.exit id)=>xl X id
 | _=>fun _=>False
def yE (lo:LO) (l:Nat) (K:W):W:=fun h=>(∃st pd,h.ob.get l=some (lo st pd))∧K h
def qM (lo:LO) (l:Nat) (K:W):W:=fun h=>∃pd,h.ob.get l=some (lo .ready pd)∧K (h.nT l (lo .busy pd))
def mI (lo:LO) (l:Nat) (st:LoopState) (pd:Option Code) (b:Bool) (R:Value→W):W:=fun h=>(∃s p,h.ob.get l=some (lo s p))∧R (.bool b) (h.nT l (lo st pd))
def yq (R:Value→W):CR→AH→Prop:=fun r h=>match r with
 | .ret v=>R v h
 | .aT _=>False
def Uy (P:Program) (w0:World) (g:FuncId) (first cr:List Value) (B:LO→Nat→List Value→(Value→W)→W) (E:Value→W) (K:Option Code→W):W:=fun h =>
 ∀lo:LO,(∀(l:Nat) (vs:List Value) (R:Value→W) (h:AH),B lo l vs R h→WR P w0 l vs h (yq R))→
  WF P w0 g (first++ .func (.yield h.nx) ⟨[]⟩ ⟨[]⟩::cr) (h.ff (lo .ready none)) fun r h'=>match r with
   | .ret _=>∃st pd,h'.ob.get h.nx=some (lo st pd)∧Ts st=true∧K pd (h'.nT h.nx (lo .exhausted pd))
   | .aT v=>E v h'
def D7 (P:Program) (w0:World) (fv:Value) (B:LO→Nat→List Value→(Value→W)→W) (E:Nat→Value→W) (K:Nat→Option Code→W):W:=match fv with
 | .func (.func g) ⟨first⟩ ⟨cr⟩=>fun h=>Uy P w0 g first cr B (E h.nx) (K h.nx) (h.ff (.defs false))
 | _=>fun _=>False
def Jl (F:Value→Value→W):List Value→W
 | [a,b]=>F a b
 | _=>fun _=>False
def L7 (σ:Sl):List Pos→List Value→Sl
 | [],_=>σ
 | _,[]=>σ
 | p::ps,v::vs=>L7 (σ.up p v) ps vs
section
variable {P:Program}{w0:World}
theorem FW (h:AH) (o:AO) (k:Nat→AH→Bool):mV h o k=k h.nx (h.ff o):=Uf h o k
theorem Ck (h:AH) (b:Nat) (o:AO) (k:AH→Bool):iK h b (some o) k=k (h.nT b o):=Ue h b (some o) k
theorem L8 {h:AH}{b:Nat}{r:mc}(hr:h.ob.get b=some (.loop r)) (k:mc→Bool):pg h b k=k r:=by
 unfold pg;rw [wU hr]
theorem amI {h:AH}{b:Nat}{t:Bool}(hr:h.ob.get b=some (.defs t)) (k:Bool→Bool):B4 h b k=k t:=by
 unfold B4;rw [wU hr]
theorem amJ (g:FuncId) (first cr:List Value) (kf:Nat→List Value→List Value→Bool) (ky:Nat→Bool):wv (.func (.func g) ⟨first⟩ ⟨cr⟩) kf ky=kf g first cr:=rfl
theorem adi:∀{ps:List Pos}{vs:List Value}{t:PT}{k:PT→Bool},ps.length=vs.length→(∀t':PT,t'.get=L7 t.get ps vs→k t'=true)→B5 ps vs t k=true
 | [],[],t,k,_,hk=>hk t rfl
 | p::ps,v::vs,t,k,hl,hk=>by
  show PT.iY p t v (fun t=>B5 ps vs t k)=true
  rw [PT.nJ]
  refine adi (by simpa using hl) fun t' wC=>hk t' ?_
  rw [wC,Sl.ac5];rfl
def Uz (lo:LO) (l:Nat) (R:Value→W):PQ:=fun x _ d h=>d.df=[]∧(match x with
 | .normal=>mI lo l .ready none true R h
 | .ret=>mI lo l .done (some .ret) false R h
 | .exit id=>mI lo l .done (some (.exit id)) false R h
 | .aT _=>False)
def UA (P:Program) (w0:World) (lo:LO) (l:Nat) (b:dV) (e:Env) (R:Value→W):PQ:=fun x σ d h=>match x with
 | .normal=>qM lo l (fun h=>eO P w0 b e σ d h (Uz lo l R)) h
 | _=>False
theorem amK (bT:P.follows .mixedOrders=true){fn:FuncId}{nt:Nat}{tm:PT}{ps:List Pos}{a b:dV}{UB:Nat}{lo:LO}(rm:∀st pd,lo st pd= .loop ⟨st,pd,fn,tm,ps,a,b,UB,nt⟩){l:Nat}{vs:List Value}{h:AH}{R:Value→W}
 (hl:∃st pd,h.ob.get l=some (lo st pd)) (hlen:ps.length=vs.length) (H:eO P w0 a ⟨fn,nt,some l⟩ (L7 tm.get ps vs) ⟨[],.off⟩ h (UA P w0 lo l b ⟨fn,nt,some l⟩ R)):WR P w0 l vs h (yq R):=by
 obtain⟨st,pd,hl⟩:=hl
 rw [rm]at hl
 show uy P w0 l vs h (fun r h=>decide (yq R r h))
 refine aa4 (rec:=gM P w0) (FN P w0) ?_
 show pg h l (fun r=>B5 r.params vs r.tm fun tm=>gM P w0 (.code r.assign ⟨r.fn,r.nt,some l⟩ ⟨tm,[],.off,h⟩ (SG (gM P w0) l r _)))=true
 rw [L8 hl]
 refine adi hlen fun t' wC=> ?_
 refine na P w0 (ed.zC (fun x s hx=> ?_) (LC bT a H t' wC))
 have gD:=of_decide_eq_true hx
 cases x with
 | normal =>
  obtain⟨wX,h1,h2⟩:qM lo l (fun h=>eO P w0 b ⟨fn,nt,some l⟩ s.tm.get ⟨s.df,s.rc⟩ h (Uz lo l R)) s.h:=gD
  rw [rm]at h1
  show pg s.h l (fun r=>iff (isReady r.state) (iK s.h l (some (.loop (r.kE .busy r.eE))) fun h=>gM P w0 (.code b ⟨fn,nt,some l⟩ ⟨s.tm,s.df,s.rc,h⟩ (KU l _))))=true
  rw [L8 h1]
  show iff true (iK s.h l (some (.loop ⟨.busy,wX,fn,tm,ps,a,b,UB,nt⟩)) fun h=>gM P w0 (.code b ⟨fn,nt,some l⟩ ⟨s.tm,s.df,s.rc,h⟩ (KU l fun r h=>decide (yq R r h))))=true
  rw [gj,Ck,←rm]
  refine na P w0 (ed.zC (fun x s hx=> ?_) (LC bT b h2 s.tm rfl))
  obtain⟨hd,gD⟩:=of_decide_eq_true hx
  have Lr:s.df=[]:=hd
  show wB s.df _=true
  rw [Lr]
  have fin:∀(j:Option Code) (st:LoopState) (b':Bool),mI lo l st j b' R s.h→Fc l s.h (fun r h=>decide (yq R r h)) j st b'=true:=fun j st b' hf=>by
   obtain⟨⟨s1,p1,h3⟩,h4⟩:=hf
   rw [rm]at h3
   show pg s.h l _=true
   rw [L8 h3]
   show iK s.h l (some (.loop ⟨st,j,fn,tm,ps,a,b,UB,nt⟩)) _=true
   rw [Ck,←rm]
   exact decide_eq_true h4
  cases x with
  | normal=>exact fin _ _ _ gD
  | ret=>exact fin _ _ _ gD
  | exit id=>exact fin _ _ _ gD
  | aT v=>exact gD.elim
 | exit id=>exact False.elim gD
 | ret=>exact False.elim gD
 | aT v=>exact False.elim gD
def UC (Q:PQ) (σ:Sl) (d:DS) (pd:Option Code) (h:AH):Prop:=match pd with
 | none=>Q .normal σ d h
 | some .ret=>Q .ret σ d h
 | some (.exit id)=>Q (.exit id) σ d h
 | _=>False
theorem amL {e:Env}{tm:PT}{df:List gV}{rc:Rc}{ps:List Pos}{a b:dV}{g:FuncId}{first cr:List Value}{h:AH}{dl:Nat}{B:LO→Nat→List Value→(Value→W)→W}{E:Value→W}{K:Option Code→W}{Q:PQ}{s:St}(kp:s.tm=tm) (lT:s.rc=rc)
 (H:Uy P w0 g first cr B E K h) (hB:∀lo:LO,(∀st pd,lo st pd= .loop ⟨st,pd,e.fn,tm,ps,a,b,dl,e.nt⟩)→∀(l:Nat) (vs:List Value) (R:Value→W) (h:AH),B lo l vs R h→WR P w0 l vs h (yq R))
 (hE:∀v h,E v h→Q (.aT v) tm.get ⟨df,rc⟩ h) (hK:∀pd h,K pd h→UC Q tm.get ⟨df,rc⟩ pd h):EY (gM P w0) e s (fun x s=>decide (Q x s.tm.get ⟨s.df,s.rc⟩ s.h)) ps a b g first cr h dl df=true:=by
 show mV h (.loop ⟨.ready,none,e.fn,s.tm,ps,a,b,dl,e.nt⟩) (fun l h=>jF first (.func (.yield l) ⟨[]⟩ ⟨[]⟩::cr) fun args=>gM P w0 (.call g args h (Sh s df _ l)))=true
 rw [FW,wR,kp]
 refine na P w0 (jk.mono (fun r h' hr=> ?_) (H (fun st pd=>.loop ⟨st,pd,e.fn,tm,ps,a,b,dl,e.nt⟩) (hB _ fun _ _=>rfl)))
 have o7:=of_decide_eq_true hr
 cases r with
 | ret v =>
  obtain⟨st,pd,h1,h2,h3⟩:=o7
  show pg h' h.nx _=true
  rw [L8 h1]
  show iff (Ts st) (iK h' h.nx (some (.loop ⟨.exhausted,pd,e.fn,tm,ps,a,b,dl,e.nt⟩)) _)=true
  rw [h2,gj,Ck]
  have:=hK pd _ h3
  unfold UC at this
  unfold KE
  rw [kp,lT]
  split at this
  · exact decide_eq_true this
  · exact decide_eq_true this
  · exact decide_eq_true this
  · exact this.elim
 | aT v =>
  show decide (Q (.aT v) s.tm.get ⟨df,s.rc⟩ h')=true
  rw [kp,lT]
  exact decide_eq_true (hE v h' o7)
theorem amM {Q:PQ}{σ:Sl}{d:DS}{N Rt:W}{X:List (Nat×W)}(hN:∀h,N h→Q .normal σ d h) (hR:∀h,Rt h→Q .ret σ d h) (hX:∀p∈X,∀h,p.2 h→Q (.exit p.1) σ d h) (pd:Option Code) (h:AH) (H:yF pd N Rt X h):UC Q σ d pd h:=by
 unfold yF at H
 split at H
 · exact hN _ H
 · exact hR _ H
 · rename_i id
   show Q (.exit id) σ d h
   induction X with
   | nil=>exact H.elim
   | cons p X ih =>
    obtain⟨j,A⟩:=p
    have H':(bif Nat.beq id j then A else xl X id) h:=H
    cases hj:Nat.beq id j with
    | true =>
     rw [hj]at H'
     have:=Nat.eq_of_beq_eq_true hj
     subst this
     exact hX _ List.mem_cons_self _ H'
    | false =>
     rw [hj]at H'
     exact ih (fun p hp=>hX p (List.mem_cons_of_mem _ hp)) H'
 · exact H.elim
def UD (Q:PQ) (σ:Sl) (d:DS):List (Nat×W)→Prop
 | []=>True
 | (j,A)::l=>(∀h,A h→Q (.exit j) σ d h)∧UD Q σ d l
theorem adj {Q:PQ}{σ:Sl}{d:DS}:∀{X:List (Nat×W)},UD Q σ d X→∀p∈X,∀h,p.2 h→Q (.exit p.1) σ d h
 | [],_,p,hp=>by cases hp
 | (j,A)::l,⟨h1,h2⟩,p,hp=>by
  rcases List.mem_cons.1 hp with rfl | hp
  · exact h1
  · exact adj h2 p hp
theorem Zf (bT:P.follows .mixedOrders=true){fn:FuncId}{nt:Nat}{f:eL}{ps:List Pos}{a b:dV}{σ:Sl}{rs:List Nat}{h:AH}{Q:PQ}{fv:Value}(B:LO→Nat→List Value→(Value→W)→W) (E:Nat→Value→W) (N Rt:Nat→W) (X:Nat→List (Nat×W))
 (hf:fe σ f=fv) (H:D7 P w0 fv B E (fun r pd=>yF pd (N r) (Rt r) (X r)) h) (hE:∀r v h,E r v h→Q (.aT v) σ (jB (r::rs)) h)
 (hN:∀r h,N r h→Q .normal σ (jB (r::rs)) h) (hR:∀r h,Rt r h→Q .ret σ (jB (r::rs)) h) (hX:∀r,UD Q σ (jB (r::rs)) (X r))
 (hB:∀(lo:LO) (_:isL lo) (l:Nat) (vs:List Value) (R:Value→W) (h:AH),B lo l vs R h→(∃st pd,h.ob.get l=some (lo st pd))∧ps.length=vs.length∧eO P w0 a ⟨fn,nt,some l⟩ (L7 σ ps vs) ⟨[],.off⟩ h (UA P w0 lo l b ⟨fn,nt,some l⟩ R)) :
 eO P w0 (.pU f ps a b) ⟨fn,nt,none⟩ σ (jB rs) h Q:=by
 intro tm eX
 subst eX
 refine sT bT ?_
 show uB f tm (fun fv=>wv fv (fun g first cr=>mV h (.defs false) fun r h=>EY (gM P w0) ⟨fn,nt,none⟩ ⟨tm,rs.map .qT,.off,_⟩ _ ps a b g first cr h r (.qT r::rs.map .qT)) ot)=true
 rw [TC,T4,hf]
 unfold D7 at H
 split at H
 · rename_i g first cr
   rw [amJ,FW]
   refine amL rfl rfl H (fun lo rm l vs R h hb=> ?_) (fun v h hv=>hE _ v h hv) (fun pd h hk=>amM (hN _) (hR _) (adj (hX _)) pd h hk)
   obtain⟨h1,h2,h3⟩:=hB lo ⟨_,_,_,_,_,_,_,rm⟩ l vs R h hb
   exact amK bT rm h1 h2 h3
 · exact H.elim
theorem Zh {lo:LO}{l:Nat}{K:W}{h:AH}(H:yE lo l K h):(∃st pd,h.ob.get l=some (lo st pd))∧K h:=H
theorem amN {lo:LO}{l:Nat}{K K':W}{h:AH}(H:qM lo l K h) (hk:∀h,K h→K' h):qM lo l K' h:=by
 obtain⟨pd,h1,h2⟩:=H
 exact⟨pd,h1,hk _ h2⟩
theorem Zi {lo:LO}{l:Nat}{K:W}{b:dV}{e:Env}{R:Value→W}{σ:Sl}{d:DS}{h:AH}(H:qM lo l K h) (hk:∀h,K h→eO P w0 b e σ d h (Uz lo l R)):UA P w0 lo l b e R .normal σ d h:=amN H hk
theorem Zg {F:Value→Value→W}{vs:List Value}{h:AH}(H:Jl F vs h):∃a b,vs=[a,b]∧F a b h:=by
 unfold Jl at H;split at H
 · exact⟨_,_,rfl,H⟩
 · exact H.elim
theorem UE {K:Option Value→AH→Prop}{m:Option Value}:∀{rs:List Nat}{h:AH},nB rs (K m) h→WL P w0 (rs.map .qT) m h K
 | [],h,H=>H
 | r::rs,h,H=>by
  obtain⟨h1,h2⟩:h.ob.get r=some (.defs false)∧nB rs (K m) (h.nT r (.defs true)):=H
  have ih:=UE (rs:=rs) h2
  refine Ss (rec:=gM P w0) (FN P w0) ?_
  show B4 h r (fun t=>iff (!t) (iK h r (some (.defs true)) fun h=>gM P w0 (.leave (rs.map .qT) m h _)))=true
  rw [amI h1]
  rw [Bool.not_false,gj,Ck]
  exact T7 (fun m h hm=>decide_eq_true hm) ih
theorem O8 {Q:PQ}{σ:Sl}{d:DS}{h:AH}(res:List mN) (R:CR→AH→Prop) (rs:List Nat) (hQ:Q .ret σ d h=FP P w0 res R .ret σ (jB rs) h) (H:nB rs (fun h=>nS res σ h fun vs=>R (.ret (zD vs)) h) h):Q .ret σ d h:=by
 rw [hQ]
 exact UE (m:=none) (K:=fun m h=>match m with | none=>nS res σ h fun vs=>R (.ret (zD vs)) h | some v=>R (.aT v) h) H
theorem Bo {Q:PQ}{σ:Sl}{d:DS}{h:AH}{v:Value}(res:List mN) (R:CR→AH→Prop) (rs:List Nat) (hQ:Q (.aT v) σ d h=FP P w0 res R (.aT v) σ (jB rs) h) (H:nB rs (fun h=>R (.aT v) h) h):Q (.aT v) σ d h:=by
 rw [hQ]
 exact UE (m:=some v) (K:=fun m h=>match m with | none=>res=[]∧R (.ret (.tuple ⟨[]⟩)) h | some v=>R (.aT v) h) H
def cE (rs:List Nat) (E:Value→W):Value→W:=fun v=>nB rs (E v)
section
variable {e:Env}{σ:Sl}{h:AH}{Q:PQ}{a b c:dV}
theorem yG {α:Type}(U:List (Pos×Value)) (M:α→List (Pos×Value)) (π:Sl→α) (J:α→List Nat→W){rs:List Nat}(hM:∀σ,oz σ (M (π σ))) (hb:∀(x:α) (rs:List Nat) (σ:Sl) (h:AH),J x rs h→eO P w0 b e ((σ.rl U).rl (M x)) (jB rs) h Q)
 (ha:eO P w0 a e σ (jB rs) h (wQ (fun σ d' h=>∃uY,d'=jB uY∧oz σ U∧J (π σ) uY h) Q)):eO P w0 (.seq a b) e σ (jB rs) h Q:=by
 refine LD a (fun x σ d' h hx=> ?_) ha
 cases x with
 | normal =>
  obtain⟨uY,rfl,h2,h3⟩:=hx
  have:=hb (π σ) uY σ h h3
  rwa [uW h2,uW (hM σ)]at this
 | _=>exact hx
theorem Zd (bT:P.follows .mixedOrders=true){α:Type}(U:List (Pos×Value)) (M:α→List (Pos×Value)) (π:Sl→α) (F:(α×List Nat→W)→α×List Nat→W) (hM:∀σ,oz σ (M (π σ)))
 (hF:∀(k:α×List Nat→W) (x:α) (rs:List Nat) (σ:Sl) (h:AH),F k (x,rs) h→eO P w0 c e ((σ.rl U).rl (M x)) (jB rs) h (wQ (fun σ d' h=>∃uY,d'=jB uY∧oz σ U∧k (π σ,uY) h) Q)){x:α}{rs:List Nat}(hx:π σ=x) (hU:oz σ U) (H:LP F (x,rs) h):eO P w0 (.loop c) e σ (jB rs) h Q:=by
 subst hx
 obtain⟨n,H⟩:=H
 have key:∀n rs σ h,oz σ U→eS F n (π σ,rs) h→WC P w0 (.loop c) e σ (jB rs) h Q:=by
  intro n
  induction n with
  | zero=>intro rs σ h _ H;exact H.elim
  | succ n ih =>
   intro rs σ h hU H
   refine T6 bT ?_
   have h1:=hF (eS F n) (π σ) rs σ h H
   rw [uW hU,uW (hM σ)]at h1
   refine LD c (fun x σ d' h hx=> ?_) h1
   cases x with
   | normal =>
    obtain⟨uY,rfl,h2,h3⟩:=hx
    exact ih uY σ h h2 h3
   | _=>exact hx
 exact key n rs σ h hU H
end
end
end
end Go.Ve
namespace Go.Ve
open Go.RowKit
noncomputable section
def AH.kill (h:AH) (b:Nat):AH:=⟨h.nx,h.ob.set b none⟩
theorem AH.L9 (h:AH) (b f:Nat):(h.kill b).ob.get f=if f=b then none else h.ob.get f:=by
 show(h.ob.set b none).get f=_
 rw [NT.eK]
theorem AH.adk {h:AH}(H:h.Ok) (b:Nat):(h.kill b).Ok:=fun f hf=>by
 rw [AH.L9];split
 · rfl
 · exact H f hf
theorem adl (h:AH) (b:Nat) (k:AH→Bool):iK h b none k=k (h.kill b):=Ue h b none k
section
variable {h:AH}{R:Value→AH→Prop}
theorem amO {zero l:List Value}{ps:List (Nat×Nat)}{vs:List Value}(hf:∀k:List Value→Bool,kF zero ps vs k=k l):WP (.build zero ps) vs h R↔R (.agg ⟨l⟩) h:=dF fun k=>hf _
theorem amP {ty:TypeId}{n:Nat}{cells l:List Value}{ps:List (Nat×Nat)}{vs:List Value}(hf:∀k:List Value→Bool,kF cells ps vs k=k l) (ha:dP l=true) :
 WP (.buildSlice ty n cells ps) vs h R↔R (eR h.nx 0 n n) (h.new ty l):=dF fun k=>by
 show kF cells ps vs (fun l=>lV h ty l fun b h=>k (.slice (some ⟨b,0,none⟩) n n) h)=_
 rw [hf,zF h ty ha]
theorem amQ (n:Nat) (zero:List Value) (k:List Value→Bool):BI n zero k=k ((List.replicate n zero).flatten):=by
 induction n generalizing k with
 | zero=>rfl
 | succ n ih =>
  show BI n zero (fun l=>jF zero l k)=_
  rw [ih,wR];rfl
theorem adm {ty:TypeId}{sz l c:Nat}{zero:List Value}{k1 k2:IntKind}(Ma:l≤c) (hc:c≤65536) (hz:zero.length=sz) (ha:dP ((List.replicate c zero).flatten)=true) :
 WP (.mkSlice ty sz zero) [.int k1 (l:Int),.int k2 (c:Int)] h R↔R (eR h.nx 0 l c) (h.new ty (List.replicate c zero).flatten):=dF fun k=>by
 show iff (Nat.ble l c&&Nat.ble c 65536&&jT zero sz) (BI c zero fun cs=>lV h ty cs fun b h=>k (.slice (some ⟨b,0,none⟩) l c) h)=_
 have e:(Nat.ble l c&&Nat.ble c 65536&&jT zero sz)=true:=by
  rw [wW];simp only [Bool.and_eq_true,Nat.ble_eq,decide_eq_true_eq];exact⟨⟨Ma,hc⟩,hz⟩
 rw [e,gj,amQ,zF h ty ha]
theorem amR (sz:Nat) (k:Nat→List Value→Bool){n c:Nat}:mX h sz (.slice none n c) k=k 0 []:=rfl
theorem amS {sz b o n c:Nat}{l:List Value}(hr:h.bE b o l) (hl:l.length=n*sz) (hn:0<n*sz) (k:Nat→List Value→Bool):mX h sz (eR b o n c) k=k n l:=by
 show(bif Nat.beq n 0 then k 0 []else lU h b o (Nat.mul n sz) fun l=>k n l)=_
 have h0:n≠0:=fun e=>by rw [e]at hn;omega
 rw [gg h0]
 exact LQ hr hl hn _
theorem amT {sz b o c:Nat}(k:Nat→List Value→Bool):mX h sz (eR b o 0 c) k=k 0 []:=rfl
section
variable {ty:TypeId}{sz n:Nat}{zero xs:List Value}{x:Value}
theorem zH (hx:∀k:Nat→List Value→Bool,mX h sz x k=k n xs) (h1:1≤sz) (hz:zero.length=sz) (s:Value) (k:KV) :
 (Prim.append ty sz zero).ev [s,x] h k=lX s (B6 h ty sz n xs k) (B7 h ty sz n xs k):=by
 show mX h sz x (fun n xs=>iff (Nat.ble 1 sz&&jT zero sz) (lX s (B6 h ty sz n xs k) (B7 h ty sz n xs k)))=_
 rw [hx]
 have e:(Nat.ble 1 sz&&jT zero sz)=true:=by rw [wW];simp only [Bool.and_eq_true,Nat.ble_eq,decide_eq_true_eq];exact⟨h1,hz⟩
 rw [e,gj]
theorem adn (hx:∀k:Nat→List Value→Bool,mX h sz x k=k 0 xs) (h1:1≤sz) (hz:zero.length=sz){a:Addr}{len cap:Nat} :
 WP (.append ty sz zero) [.slice (some a) len cap,x] h R↔R (.slice (some ⟨a.block,a.off,none⟩) len cap) h:=dF fun k=>by
 rw [zH hx h1 hz];cases a;rfl
theorem amU (hx:∀k:Nat→List Value→Bool,mX h sz x k=k 0 xs) (h1:1≤sz) (hz:zero.length=sz){len cap:Nat} :
 WP (.append ty sz zero) [.slice none len cap,x] h R↔R cg h:=dF fun k=>by
 rw [zH hx h1 hz];rfl
theorem amV (hx:∀k:Nat→List Value→Bool,mX h sz x k=k n xs) (h1:1≤sz) (hz:zero.length=sz) (hn:0<n) (hb:n≤1048576) (ha:dP xs=true){len cap:Nat} :
 WP (.append ty sz zero) [.slice none len cap,x] h R↔R (eR h.nx 0 n (bg+sz)) (h.new ty xs):=dF fun k=>by
 rw [zH hx h1 hz]
 show(bif Nat.beq n 0 then k (.slice none 0 0) h else iff (Nat.ble n 1048576) (lV h ty xs fun b h=>fN (Nat.add bg sz) fun cp=>k (.slice (some ⟨b,0,none⟩) n cp) h))=_
 have e:Nat.ble n 1048576=true:=by rw [Nat.ble_eq];exact hb
 rw [gg (show n≠0 by omega),e]
 show lV h ty xs _=_
 rw [zF h ty ha,cz];rfl
def AH.grown (h:AH) (b o:Nat) (ty:TypeId) (c:NT Value) (at_ dK:Nat) (xs:List Value):AH:=(h.kill b).ff (.cells o dK ty true (kL c at_ xs))
theorem amW (hx:∀k:Nat→List Value→Bool,mX h sz x k=k n xs) (h1:1≤sz) (hz:zero.length=sz) (hn:0<n){b o len lo hi:Nat}{c:NT Value}{s:Option Nat}(hb:len+n≤1048576) (ha:dP xs=true)
 (hg:h.ob.get b=some (.cells lo hi ty true c)) (rm:lo≤o) (UF:o+len*sz≤hi) :
 WP (.append ty sz zero) [.slice (some ⟨b,o,s⟩) len (bg+sz),x] h R↔R (eR h.nx o (len+n) (bg+sz)) (h.grown b o ty c (o+len*sz) (o+(len+n)*sz) xs):=dF fun k=>by
 rw [zH hx h1 hz]
 show(bif Nat.beq n 0 then k (.slice (some ⟨b,o,none⟩) len (bg+sz)) h else fN (Nat.add len n) fun jJ=>iff (Nat.ble jJ 1048576) (bif Nat.ble bg (bg+sz)then KX h ty sz xs b o len (bg+sz) jJ k else _))=_
 have e:Nat.ble (len+n) 1048576=true:=by rw [Nat.ble_eq];exact hb
 have e2:Nat.ble bg (bg+sz)=true:=by rw [Nat.ble_eq];omega
 rw [gg (show n≠0 by omega)]
 simp only [cond_false]
 rw [cz,show Nat.add len n=len+n from rfl,e,gj,e2]
 simp only [cond_true]
 unfold KX
 have e3:Nat.beq (bg+sz) (Nat.add bg sz)=true:=by rw [Nat.beq_eq];rfl
 rw [e3,gj]
 unfold mW
 rw [wU hg]
 show iff (true&&Nat.beq ty ty&&Nat.ble lo o&&Nat.ble (Nat.add o (Nat.mul len sz)) hi&&dP xs) _=_
 have e4:(true&&Nat.beq ty ty&&Nat.ble lo o&&Nat.ble (Nat.add o (Nat.mul len sz)) hi&&dP xs)=true:=by
  simp only [Bool.and_eq_true,Nat.ble_eq,Nat.beq_eq];exact⟨⟨⟨⟨trivial,trivial⟩,rm⟩,UF⟩,ha⟩
 rw [e4,gj,adl,cz,LH,cz,Uf]
 rfl
theorem amX (hx:∀k:Nat→List Value→Bool,mX h sz x k=k n xs) (h1:1≤sz) (hz:zero.length=sz) (hn:0<n){b o len cap:Nat}{s:Option Nat}{old:List Value}(hb:len+n≤1048576) (hc:cap<len+n) (ha:dP (old++xs)=true)
 (hl:0<len) (hr:h.bE b o old) (ho:old.length=len*sz) :
 WP (.append ty sz zero) [.slice (some ⟨b,o,s⟩) len cap,x] h R↔R (eR h.nx 0 (len+n) (bg+sz)) (h.new ty (old++xs)):=dF fun k=>by
 rw [zH hx h1 hz]
 show(bif Nat.beq n 0 then k (.slice (some ⟨b,o,none⟩) len cap) h else fN (Nat.add len n) fun jJ=>iff (Nat.ble jJ 1048576) (bif Nat.ble bg cap then _ else bif Nat.ble jJ cap then _ else bif Nat.beq len 0 then _ else lU h b o (Nat.mul len sz) fun old=>jF old xs fun l=>lV h ty l fun b' h=>fN (Nat.add bg sz) fun cp=>k (.slice (some ⟨b',0,none⟩) jJ cp) h))=_
 have e:Nat.ble (len+n) 1048576=true:=by rw [Nat.ble_eq];exact hb
 have e2:Nat.ble bg cap=false:=by
  have:¬bg≤cap:=by unfold bg;omega
  cases hh:Nat.ble bg cap with
  | false=>rfl
  | true=>rw [Nat.ble_eq]at hh;exact absurd hh this
 have e3:Nat.ble (len+n) cap=false:=by
  cases hh:Nat.ble (len+n) cap with
  | false=>rfl
  | true=>rw [Nat.ble_eq]at hh;omega
 rw [gg (show n≠0 by omega)]
 simp only [cond_false]
 rw [cz,show Nat.add len n=len+n from rfl,e,gj,e2,e3,gg (show len≠0 by omega)]
 simp only [cond_false]
 have pq:0<len*sz:=Nat.mul_pos hl h1
 rw [show Nat.mul len sz=len*sz from rfl,LQ hr ho pq,wR,zF h ty ha,cz]
 rfl
end
theorem amY:WP .mkMap [] h R↔R (.map (some h.nx)) (h.ff (.map [] 0)):=dF fun k=>by
 show mV h (.map [] 0) (fun b h=>k (.map (some b)) h)=_
 rw [FW]
end
end
end Go.Ve
namespace Go.Ve
open Go.RowKit
open Classical
noncomputable section
def AH.rn (h:AH) (b:Nat):Nat→Nat→Option (List Value)
 | _,0=>some []
 | o,n+1=>match h.rd b o with
  | none=>none
  | some v=>match h.rn b (o+1) n with
   | none=>none
   | some l=>some (v::l)
theorem AH.ado {h:AH}{b:Nat}:∀{n o:Nat}{l:List Value},h.rn b o n=some l→l.length=n∧h.bE b o l
 | 0,o,l,e=>by cases e;exact⟨rfl,AH.Ub h b o⟩
 | n+1,o,l,e=>by
  unfold AH.rn at e
  split at e
  · cases e
  · rename_i v hv
    split at e
    · cases e
    · rename_i m hm
      cases e
      obtain⟨h1,h2⟩:=AH.ado hm
      exact⟨by simp [h1],AH.ade.2 ⟨hv,h2⟩⟩
theorem AH.adp {h:AH}{b:Nat}:∀{l:List Value}{n o:Nat},l.length=n→h.bE b o l→h.rn b o n=some l
 | [],n,o,hn,_=>by subst hn;rfl
 | v::l,n,o,hn,hr=>by
  subst hn
  obtain⟨h1,h2⟩:=AH.ade.1 hr
  show(match h.rd b o with | none=>none | some v=>match h.rn b (o+1) l.length with | none=>none | some l=>some (v::l))=_
  rw [h1,AH.adp rfl h2]
theorem AH.UG (h:AH) (b o:Nat):h.rn b o 0=some []:=rfl
theorem AH.UH (h:AH) (b o n:Nat):h.rn b o (n+1)=(h.rd b o).bind fun v=>(h.rn b (o+1) n).map (v:: ·):=by
 show(match h.rd b o with | none=>none | some v=>match h.rn b (o+1) n with | none=>none | some l=>some (v::l))=_
 cases h.rd b o with
 | none=>rfl
 | some v=>cases h.rn b (o+1) n<;>rfl
theorem AH.Mb (h:AH) (ty:TypeId) (l:List Value) (b o n:Nat):(h.new ty l).can b o n↔(if b=h.nx then o+n≤l.length else h.can b o n):=by
 by_cases e:b=h.nx
 · subst e
   rw [if_pos rfl]
   constructor
   · rintro⟨lo,hi,cJ,c,h1,h2,h3⟩
     have jr:(h.ob.set h.nx (some (.cells 0 l.length ty true (kL .e 0 l)))).get h.nx=some (.cells lo hi cJ true c):=h1
     rw [NT.eK,if_pos rfl]at jr
     cases jr;exact h3
   · exact fun hn=>AH.Ua h ty l hn
 · rw [if_neg e]
   constructor
   · rintro⟨lo,hi,cJ,c,h1,h2,h3⟩
     have jr:(h.ob.set h.nx (some (.cells 0 l.length ty true (kL .e 0 l)))).get b=some (.cells lo hi cJ true c):=h1
     rw [NT.eK,if_neg e]at jr
     exact⟨lo,hi,cJ,c,jr,h2,h3⟩
   · exact fun H=>AH.amu ty l H e
theorem AH.UI (h:AH) (b o:Nat) (l:List Value) (b' o' n':Nat):(h.wr b o l).can b' o' n'↔h.can b' o' n':=by
 refine⟨fun H=> ?_,AH.LK⟩
 by_cases e:b'=b
 · subst e
   obtain⟨lo,hi,ty,c,h1,h2,h3⟩:=H
   unfold AH.wr at h1
   split at h1
   · rename_i wV dK cJ oh c' heq
     have jr:(h.ob.set b' (some (.cells wV dK cJ oh (kL c' o l)))).get b'=some (.cells lo hi ty true c):=h1
     rw [NT.eK,if_pos rfl]at jr
     cases jr
     exact⟨lo,hi,ty,c',heq,h2,h3⟩
   · exact⟨lo,hi,ty,c,h1,h2,h3⟩
 · obtain⟨lo,hi,ty,c,h1,h2,h3⟩:=H
   rw [AH.wS h e]at h1
   exact⟨lo,hi,ty,c,h1,h2,h3⟩
theorem AH.UJ {h:AH}{b o:Nat}{l:List Value}(H:h.can b o l.length) (b' o':Nat):(h.wr b o l).rd b' o'=if b'=b∧o≤o'∧o'<o+l.length then l[o'-o]? else h.rd b' o':=AH.wT H (Nat.le_refl _) b' o'
section
variable {h:AH}{R:Value→AH→Prop}
theorem UK {b o:Nat}{s:Option Nat}:WP .aH [.pointer (some ⟨b,o,s⟩)] h R↔∃v,h.rd b o=some v∧R v h:=by
 constructor
 · intro H
   have e:sG h b o (fun v=>decide (R v h))=true:=H (fun v h=>decide (R v h)) fun _ _ hr=>decide_eq_true hr
   obtain⟨lo,hi,ty,rw,c,v,h1,h2,h3,h4,h5⟩:=KL e
   refine⟨v, ?_,of_decide_eq_true h5⟩
   unfold AH.rd
   rw [h1]
   show(if lo≤o∧o+1≤hi then c.get o else none)=some v
   rw [if_pos ⟨h2,h3⟩,h4]
 · rintro⟨v,h1,h2⟩;exact(LW h1).2 h2
theorem nU {b o n:Nat}{s:Option Nat}(h0:0<n):WP (.bV n) [.pointer (some ⟨b,o,s⟩)] h R↔∃l,h.rn b o n=some l∧R (.agg ⟨l⟩) h:=by
 constructor
 · intro H
   have e:lU h b o n (fun l=>decide (R (.agg ⟨l⟩) h))=true:=H (fun v h=>decide (R v h)) fun _ _ hr=>decide_eq_true hr
   obtain⟨lo,hi,ty,rw,c,l,h1,h2,h3,h4,h5,h6⟩:=wh e
   refine⟨l,AH.adp h4 fun i v hv=> ?_,of_decide_eq_true h6⟩
   have dK:i<n:=by have:=(List.getElem?_eq_some_iff.1 hv).1;omega
   unfold AH.rd
   rw [h1]
   show(if lo≤o+i∧o+i+1≤hi then c.get (o+i)else none)=some v
   rw [if_pos ⟨by omega,by omega⟩,h5 i v hv]
 · rintro⟨l,h1,h2⟩
   obtain⟨h3,h4⟩:=AH.ado h1
   exact(LX h4 h3 h0).2 h2
theorem UL {b o n:Nat}{s:Option Nat}{v:Value}:WP (.store n) [.pointer (some ⟨b,o,s⟩),v] h R↔(cellsOf v).length=n∧dP (cellsOf v)=true∧h.can b o n∧R undef (h.wr b o (cellsOf v)):=by
 constructor
 · intro H
   have e:iff (jT (cellsOf v) n) (re h b o (cellsOf v) fun h=>decide (R undef h))=true:=H (fun v h=>decide (R v h)) fun _ _ hr=>decide_eq_true hr
   obtain⟨h1,h2⟩:=cI e
   rw [wW,decide_eq_true_eq]at h1
   have hc:h.can b o (cellsOf v).length∧dP (cellsOf v)=true:=by
    obtain⟨lo,hi,ty,rw,c,g1,g2⟩:=uQ (show mW h b _=true from h2)
    obtain⟨g3,g4⟩:=cI g2
    simp only [Bool.and_eq_true]at g3
    obtain⟨⟨⟨r1,r2⟩,r3⟩,r4⟩:=g3
    subst r1
    exact⟨⟨lo,hi,ty,c,g1,Nat.le_of_ble_eq_true r2,Nat.le_of_ble_eq_true r3⟩,r4⟩
   rw [LU hc.1 hc.2]at h2
   exact⟨h1,hc.2,h1▸hc.1,of_decide_eq_true h2⟩
 · rintro⟨h1,h2,h3,h4⟩
   exact(LY h3 h1 h2).2 h4
theorem Mc {l:List Value}{i:Nat}:WP (.extract i) [.tuple ⟨l⟩] h R↔∃v,l[i]? =some v∧R v h:=by
 constructor
 · intro H
   have e:ql l i (fun v=>decide (R v h))=true:=H (fun v h=>decide (R v h)) fun _ _ hr=>decide_eq_true hr
   cases hv:l[i]? with
   | some v=>rw [LZ hv]at e;exact⟨v,rfl,of_decide_eq_true e⟩
   | none =>
    exfalso
    clear H
    induction l generalizing i with
    | nil=>cases e
    | cons x l ih=>cases i with
     | zero=>simp at hv
     | succ i=>exact ih (show ql l i _=true from e) (by simpa using hv)
 · rintro⟨v,h1,h2⟩;exact(eY h1).2 h2
theorem UM {l:List Value}{i:Nat}:WP (.RG i) [.agg ⟨l⟩] h R↔∃v,l[i]? =some v∧R v h :=
 (show WP (.RG i) [.agg ⟨l⟩] h R↔WP (.extract i) [.tuple ⟨l⟩] h R from Iff.rfl).trans Mc
end
theorem UN (k:IntKind) (n:Int):fR (.int k n)=true:=rfl
theorem UO (b:Bool):fR (.bool b)=true:=rfl
theorem UP (s:ByteArray):fR (.string s)=true:=rfl
theorem UQ (a:Option Addr):fR (.pointer a)=true:=rfl
theorem UR (a:Option Addr) (n c:Nat):fR (.slice a n c)=true:=rfl
theorem US (a:Option Nat):fR (.map a)=true:=rfl
theorem UT (f:Fn) (a b:Array Value):fR (.func f a b)=true:=rfl
theorem b9 (l:List Value):cellsOf (.agg ⟨l⟩)=l:=rfl
theorem cb (k:IntKind) (n:Int):cellsOf (.int k n)=[.int k n]:=rfl
theorem cd (b:Bool):cellsOf (.bool b)=[.bool b]:=rfl
theorem cf (s:ByteArray):cellsOf (.string s)=[.string s]:=rfl
theorem UU (a:Option Addr):cellsOf (.pointer a)=[.pointer a]:=rfl
theorem UW (a:Option Addr) (n c:Nat):cellsOf (.slice a n c)=[.slice a n c]:=rfl
theorem UX (a:Option Nat):cellsOf (.map a)=[.map a]:=rfl
theorem UY (f:Fn) (a b:Array Value):cellsOf (.func f a b)=[.func f a b]:=rfl
theorem oA {v:Value}(h:fR v=true):cellsOf v=[v]:=by
 cases v<;>first | rfl | cases h
theorem UZ:dP []=true:=rfl
theorem uZ (v:Value) (l:List Value):dP (v::l)=(fR v&&dP l):=by
 show(bif fR v then dP l else false)=_
 cases fR v<;>rfl
def mj (l:List Value) (o:Nat) (m:List Value):List Value:=l.take o++m++l.drop (o+m.length)
def ml:List Value→List (Nat×Nat)→List Value→Option (List Value)
 | l,[],[]=>some l
 | l,(o,n)::ps,v::vs=>if (cellsOf v).length=n∧o+n≤l.length then ml (mj l o (cellsOf v)) ps vs else none
 | _,_,_=>none
theorem adq:∀{l m:List Value}(_:m.length≤l.length) (k:List Value→Bool),mU l m k=k (m++l.drop m.length)
 | [],[],_,k=>rfl
 | [],v::m,h,k=>by simp at h
 | x::l,[],h,k=>rfl
 | x::l,v::m,h,k=>by
  show mU l m (fun l'=>k (v::l'))=_
  rw [adq (by simpa using h)];simp
theorem U0:∀{l:List Value}{o:Nat}{m:List Value}(_:o+m.length≤l.length) (k:List Value→Bool),pZ l o m k=k (mj l o m)
 | [],0,[],h,k=>rfl
 | [],0,v::m,h,k=>by simp at h
 | [],o+1,m,h,k=>by simp at h
 | x::l,0,m,h,k=>by
  show mU (x::l) m k=_
  rw [adq (by omega)];unfold mj;rw [List.take_zero,List.nil_append,Nat.zero_add]
 | x::l,o+1,m,h,k=>by
  show pZ l o m (fun l'=>k (x::l'))=_
  rw [U0 (by simp at h;omega)]
  unfold mj
  rw [show o+1+m.length=(o+m.length)+1 by omega]
  rfl
theorem U1:∀{ps:List (Nat×Nat)}{l vs m:List Value}(_:ml l ps vs=some m) (k:List Value→Bool),kF l ps vs k=k m
 | [],l,[],m,e,k=>by cases e;rfl
 | [],l,v::vs,m,e,k=>by cases e
 | (o,n)::ps,l,[],m,e,k=>by cases e
 | (o,n)::ps,l,v::vs,m,e,k=>by
  unfold ml at e
  split at e
  · rename_i hc
    show(bif jT (cellsOf v) n then pZ l o (cellsOf v) fun l'=>kF l' ps vs k else false)=_
    rw [wW,decide_eq_true hc.1]
    simp only [cond_true]
    rw [U0 (by rw [hc.1];exact hc.2),U1 e]
  · cases e
def dW:List Nat→List Value→Bool
 | [],[]=>true
 | n::ns,v::vs=>decide ((cellsOf v).length=n)&&dW ns vs
 | _,_=>false
theorem adr:∀{ss:List Nat}{vs:List Value},dW ss vs=true→ss=vs.map fun v=>(cellsOf v).length
 | [],[],_=>rfl
 | n::ns,v::vs,e=>by
  unfold dW at e
  rw [Bool.and_eq_true,decide_eq_true_eq]at e
  rw [List.map_cons,adr e.2,e.1]
 | [],_::_,e=>by cases e
 | _::_,[],e=>by cases e
section
variable {h:AH}{R:Value→AH→Prop}
theorem Md {ss:List Nat}{vs:List Value}(hs:dW ss vs=true):WP (.eo ss) vs h R↔R (.agg ⟨vs.flatMap cellsOf⟩) h:=amE (adr hs)
theorem ie {zero l:List Value}{ps:List (Nat×Nat)}{vs:List Value}(hf:ml zero ps vs=some l):WP (.build zero ps) vs h R↔R (.agg ⟨l⟩) h:=amO (U1 hf)
theorem amZ {ty:TypeId}{n:Nat}{cells l:List Value}{ps:List (Nat×Nat)}{vs:List Value}(hf:ml cells ps vs=some l) (ha:dP l=true):WP (.buildSlice ty n cells ps) vs h R↔R (eR h.nx 0 n n) (h.new ty l):=amP (U1 hf) ha
end
theorem U2:∀{l m:List Value}{k:List Value→Bool},mU l m k=true→m.length≤l.length
 | [],[],k,_=>Nat.le_refl _
 | [],v::m,k,h=>by cases h
 | x::l,[],k,_=>Nat.zero_le _
 | x::l,v::m,k,h=>by
  have:=U2 (show mU l m (fun l'=>k (v::l'))=true from h)
  simpa using this
theorem ads:∀{l:List Value}{o:Nat}{m:List Value}{k:List Value→Bool},pZ l o m k=true→o+m.length≤l.length
 | [],0,m,k,h=>by have:=U2 (show mU [] m k=true from h);simpa using this
 | [],o+1,m,k,h=>by cases h
 | x::l,0,m,k,h=>by have:=U2 (show mU (x::l) m k=true from h);omega
 | x::l,o+1,m,k,h=>by
  have:=ads (show pZ l o m (fun l'=>k (x::l'))=true from h)
  simp only [List.length_cons];omega
theorem adt:∀{ps:List (Nat×Nat)}{l vs:List Value}{k:List Value→Bool},kF l ps vs k=true→∃m,ml l ps vs=some m∧k m=true
 | [],l,[],k,h=>⟨l,rfl,h⟩
 | [],l,v::vs,k,h=>by cases h
 | (o,n)::ps,l,[],k,h=>by cases h
 | (o,n)::ps,l,v::vs,k,h=>by
  have h':(bif jT (cellsOf v) n then pZ l o (cellsOf v) fun l'=>kF l' ps vs k else false)=true:=h
  cases hl:jT (cellsOf v) n with
  | false=>rw [hl]at h';cases h'
  | true =>
   rw [hl]at h'
   have h2:pZ l o (cellsOf v) (fun l'=>kF l' ps vs k)=true:=h'
   rw [wW,decide_eq_true_eq]at hl
   have h3:=ads h2
   rw [U0 h3]at h2
   obtain⟨m,h4,h5⟩:=adt h2
   refine⟨m, ?_,h5⟩
   unfold ml
   rw [if_pos ⟨hl,by rw [←hl];exact h3⟩];exact h4
section
variable {h:AH}{R:Value→AH→Prop}
theorem U3 {zero:List Value}{ps:List (Nat×Nat)}{vs:List Value}:WP (.build zero ps) vs h R↔∃l,ml zero ps vs=some l∧R (.agg ⟨l⟩) h:=by
 constructor
 · intro H
   obtain⟨m,h1,h2⟩:=adt (show kF zero ps vs (fun l=>decide (R (.agg ⟨l⟩) h))=true from H (fun v h=>decide (R v h)) fun _ _ hr=>decide_eq_true hr)
   exact⟨m,h1,of_decide_eq_true h2⟩
 · rintro⟨l,h1,h2⟩;exact(ie h1).2 h2
end
theorem U4 {sz:Nat}:∀{l:List (List Value)}{i:Nat}{x:List Value},(∀x∈l,x.length=sz)→l[i]? =some x→∀j v,x[j]? =some v→l.flatten[i*sz+j]? =some v
 | [],i,x,_,e,j,v,hv=>by simp at e
 | y::l,0,x,hs,e,j,v,hv=>by
  simp at e;subst e
  have:j<y.length:=(List.getElem?_eq_some_iff.1 hv).1
  simp [List.getElem?_append_left this,hv]
 | y::l,i+1,x,hs,e,j,v,hv=>by
  have h1:=hs y List.mem_cons_self
  have:=U4 (fun x hx=>hs x (List.mem_cons_of_mem _ hx)) (show l[i]? =some x by simpa using e) j v hv
  rw [List.flatten_cons,List.getElem?_append_right (by rw [h1,Nat.add_mul];omega),h1]
  rw [show(i+1)*sz+j-sz=i*sz+j by rw [Nat.add_mul];omega]
  exact this
end
end Go.Ve
