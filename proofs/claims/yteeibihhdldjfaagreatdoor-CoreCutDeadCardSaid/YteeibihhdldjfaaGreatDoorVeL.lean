/- Part 12: for whatever can be read as plain data there is an abstract heap that stands for it. Condition: the types are plain. And more. -/
import Derived.Test.YteeibihhdldjfaaGreatDoorVeK
import Derived.DataReads
set_option linter.unusedVariables false
set_option linter.unusedSimpArgs false
namespace Go.Ve
open Go.ChangeShapes Go.WideShapes Go.ChangeAt Go.RowKit
section
variable {H:Type}{enc:TypeId×Value→H}{P:Program}
def My (P:Program):Nat→List Field→Nat→Bool | o,[],n=>o==n | o,f::fs,n=>f.offset==o&&My P (o+P.cellsOf f.type) fs n
def FK (P:Program):Nat→TypeId→Bool | 0,_=>false | n+1,t=>match P.underlying t with | some .bool=>true | some (.int _)=>true | some .string=>true | some (.slice e)=>decide (0<P.cellsOf e)&&FK P n e | some (.struct fs)=>My P 0 fs.toList (P.cellsOf t)&&fs.toList.all fun f=>FK P n f.type | some (.array k e)=>(k*P.cellsOf e==P.cellsOf t)&&FK P n e | _=>false
def Ix (P:Program) (W:World) (t:TypeId) (ew:ZZE) (d:DataW H):Prop:=∀(φ:aY) (h:AH),HR P W φ h W→∃φ' h' cs,HR P W φ' h' W∧Ext h.nx φ φ'∧eK h h'∧LR φ' cs ew∧AD P h' t cs d
theorem amF {W t}:∀(l:List (ZZE×DataW H)),(∀x∈l,Ix P W t x.1 x.2)→∀(φ:aY) (h:AH),HR P W φ h W→
 ∃(φ':aY) (h':AH) (eZ:List (ZZE)),HR P W φ' h' W∧Ext h.nx φ φ'∧eK h h'∧eZ.length=l.length∧∀(i:Nat) (cs:ZZE) (x:ZZE×DataW H),eZ[i]? =some cs→l[i]? =some x→LR φ' cs x.1∧AD P h' t cs x.2:=by
 intro l
 induction l with
 | nil=>intro _ φ h R;exact⟨φ,h,[],R,Ext.refl _ _,eK.refl _,rfl,fun i cs x h1=>by simp at h1⟩
 | cons x l ih=>
  intro iz φ h R;obtain⟨φ1,h1,cs,R1,E1,K1,L1,A1⟩:=iz x zai φ h R;obtain⟨φ2,h2,eZ,R2,E2,K2,hl,hA⟩:=ih (fun y hy=>iz y (zaj _ hy)) φ1 h1 R1;refine⟨φ2,h2,cs::eZ,R2,E1.trans E2 K1.nx,K1.trans K2,by simp [hl],fun i c y g1 g2=>?_⟩;cases i with
  | zero=>
   simp at g1 g2;subst g1;subst g2;exact⟨LR.ext E2 L1,A1.bt K2 R1.top⟩
  | succ i=>exact hA i c y (by simpa using g1) (by simpa using g2)
theorem UB {α}:∀(eZ:List (List α)) (z:Nat),(∀cs∈eZ,cs.length=z)→∀(i j:Nat) (cs:List α),eZ[i]? =some cs→j<z→eZ.flatten[i*z+j]? =cs[j]?
 | [],z,_,i,j,cs,h,_=>by simp at h
 | c::eZ,z,hz,0,j,cs,h,hj=>by
  simp at h;subst h;have:c.length=z:=hz c zai;rw [zaN,Nat.zero_mul,zav,zaC (by omega)]
 | c::eZ,z,hz,i+1,j,cs,h,hj=>by
  have hc:c.length=z:=hz c zai;rw [zaN,zaB (by rw [hc,zaR];omega)];have:=UB eZ z (fun x hx=>hz x (zaj _ hx)) i j cs (by simpa using h) hj;rw [←this]
  congr 1
  rw [hc,zaR];omega
theorem adR {α}:∀(eZ:List (List α)) (z:Nat),(∀cs∈eZ,cs.length=z)→eZ.flatten.length=eZ.length*z
 | [],z,_=>by simp
 | c::eZ,z,hz=>by
  rw [zaN,zaG,adR eZ z (fun x hx=>hz x (zaj _ hx)),hz c zai,zaE,zaR];omega
theorem ayB {W:World}{ew:ZZE}{n:Nat}(iM:ew.length=n):∀(fs:List Field) (ds:List (DataW H)) (o:Nat),My P o fs n=true→ds.length=fs.length→
    (∀(i:Nat) (f:Field) (d:DataW H),fs[i]? =some f→ds[i]? =some d→Ix P W f.type ((ew.drop f.offset).take (P.cellsOf f.type)) d)→∀(φ:aY) (h:AH),HR P W φ h W→
    ∃φ' h' cs,HR P W φ' h' W∧Ext h.nx φ φ'∧eK h h'∧o≤n∧LR φ' cs (ew.drop o)∧∀(i:Nat) (f:Field) (d:DataW H),fs[i]? =some f→ds[i]? =some d→o≤f.offset∧AD P h' f.type ((cs.drop (f.offset-o)).take (P.cellsOf f.type)) d:=by
  intro fs
  induction fs with
  | nil=>
    intro ds o ht hl _ φ h R;simp only [My,zbg]at ht;exact⟨φ,h,[],R,Ext.refl _ _,eK.refl _,by omega,by rw [List.drop_eq_nil_of_le (by omega)];exact .nil,fun i f d h1=>by simp at h1⟩
  | cons f fs ih=>
    intro ds o ht hl iz φ h R;simp only [My,zae,zbg]at ht;obtain⟨ho,ht⟩:=ht;cases ds with
    | nil=>simp at hl
    | cons d ds=>
      obtain⟨φ1,h1,c1,R1,E1,K1,L1,A1⟩:=iz 0 f d rfl rfl φ h R;obtain⟨φ2,h2,c2,R2,E2,K2,hon,L2,A2⟩:=ih ds (o+P.cellsOf f.type) ht (by simpa using hl) (fun i f' d' g1 g2=>iz (i+1) f' d' (by simpa using g1) (by simpa using g2)) φ1 h1 R1;rw [ho]at L1
      have hlen:c1.length=P.cellsOf f.type:=by
        rw [L1.length,za3,List.length_drop];omega
      refine⟨φ2,h2,c1++c2,R2,E1.trans E2 K1.nx,K1.trans K2,by omega,?_,fun i f' d' g1 g2=>?_⟩
      · have:ew.drop o=(ew.drop o).take (P.cellsOf f.type)++ew.drop (o+P.cellsOf f.type):=by
          rw [←List.drop_drop,List.take_append_drop]
        rw [this];exact LR.append L2 (LR.ext E2 L1)
      · cases i with
        | zero=>
          simp at g1 g2;subst g1;subst g2;refine⟨by omega,?_⟩;rw [ho,Nat.sub_self,zbB,List.take_append_of_le_length (by omega),List.take_of_length_le (by omega)];exact A1.bt K2 R1.top
        | succ i=>
          obtain⟨a1,a2⟩:=A2 i f' d' (by simpa using g1) (by simpa using g2);refine⟨by omega,?_⟩;rw [List.drop_append,List.drop_eq_nil_of_le (by omega),zaU];rw [show f'.offset-o-c1.length=f'.offset-(o+P.cellsOf f.type) by omega];exact a2
theorem ayC {W t e a len cap kU rest}(hu:P.underlying t=some (.slice e))(hz:0<P.cellsOf e)(hlen:len≤cap)(lO:cap≤maxLen)(hn:kU.length=len)(hr:rest.length=cap-len)
 (Mz:∀(i:Nat) (d:DataW H),(kU++rest)[i]? =some d→∃ew,W.cells? 0 (a.add (i*P.cellsOf e)) (P.cellsOf e)=some ew∧Ix P W e ew d):Ix P W t [.slice (some a) len cap] (.slice kU rest):=by
 intro φ h R;have ayD:cap<bQ:=Nat.lt_of_le_of_lt lO (by decide);rcases Nat.eq_zero_or_pos cap with h0 | h0
 · -- no cell at all
   obtain⟨R1,E1,K1⟩:=R.ayA;have he:kU=[]:=zbe (by omega);have w9:rest=[]:=zbe (by omega);subst he;subst w9;have o3:len=0:=by omega
   subst o3;subst h0;refine⟨_,_,[.slice (some ⟨h.nx,0,none⟩) 0 0],R1,E1,K1,.cons _ _ _ _ (.sl _ _ _ _ _ (by simp [aY.put]) (.inl ⟨by decide,rfl,zad _,fun hh=>absurd hh (Nat.lt_irrefl 0)⟩)) .nil,?_⟩;exact .sl t e h.nx 0 0 0 [] [] [] hu rfl (zad _) (zaz _) rfl (fun cs iM=>by cases iM) (AH.T7 _ _ _) (fun i cs d h1=>by simp at h1)
 · have iz:(kU++rest).length=cap:=by rw [zaG];omega
   obtain⟨d0,q9⟩:∃d,(kU++rest)[0]? =some d:=⟨(kU++rest)[0]'(by omega),zab (by omega)⟩;obtain⟨c0,E6,_⟩:=Mz 0 d0 q9;obtain⟨_,aI3,ayE⟩:=World.cells?_some E6;have uX:=ayE 0 hz;rw [show(a.add (0*P.cellsOf e)).add 0=a by rw [Nat.zero_mul];rfl]at uX;have ayF:c0[0]? =some (c0[0]'(by omega)):=zab (by omega);rw [ayF]at uX
   obtain⟨arr,ty,fr,hw,UC⟩:∃arr ty fr,W.heap[a.block]? =some (.cells arr ty fr)∧a.spot=none:=by
    unfold World.cell? at uX;split at uX
    · rename_i arr ty fr hh;refine⟨arr,ty,fr,hh,?_⟩;split at uX
      · cases uX
      · rename_i hs;simpa using hs
    · cases uX
   have ayG:∀(j:Nat),W.cell? (a.add j)=arr[a.off+j]? :=by
    intro j;rw [si a UC];unfold World.cell?;simp only [hw];rfl
   have adS:∀(i:Nat) (d:DataW H),kU[i]? =some d→∃ew,W.cells? 0 (a.add (i*P.cellsOf e)) (P.cellsOf e)=some ew∧Ix P W e ew d:=fun i d hd=>Mz i d (by rw [zaC (List.getElem?_eq_some_iff.1 hd).1];exact hd)
   let l:List (ZZE×DataW H):=(List.range len).map fun i=>((W.cells? 0 (a.add (i*P.cellsOf e)) (P.cellsOf e)).getD [],kU.getD i .nil)
   have qm:l.length=len:=by simp [l]
   have wb:∀(i:Nat) (d:DataW H),kU[i]? =some d→l[i]? =some ((W.cells? 0 (a.add (i*P.cellsOf e)) (P.cellsOf e)).getD [],d):=by
    intro i d hd;have hi:i<len:=by rw [←hn];exact(List.getElem?_eq_some_iff.1 hd).1
    simp [l,hi,List.getD,hd]
   obtain⟨φ1,h1,eZ,R1,E1,K1,ly,hA⟩:=amF (P:=P) (W:=W) (t:=e) l (fun x hx=>by
    obtain⟨i,hi⟩:=zaV hx;have wc:i<len:=by rw [←qm];exact(List.getElem?_eq_some_iff.1 hi).1
    have hd:kU[i]? =some (kU[i]'(by omega)):=zab (by omega);obtain⟨ew,g1,g2⟩:=adS i _ hd;rw [wb i _ hd]at hi;cases hi;rw [g1];exact g2) φ h R
   have yn:∀cs∈eZ,cs.length=P.cellsOf e:=by
    intro cs iM;obtain⟨i,hi⟩:=zaV iM;have wc:i<len:=by rw [←qm,←ly];exact(List.getElem?_eq_some_iff.1 hi).1
    have hd:kU[i]? =some (kU[i]'(by omega)):=zab (by omega);obtain⟨ew,g1,_⟩:=adS i _ hd;obtain⟨L1,_⟩:=hA i cs _ hi (wb i _ hd);rw [g1]at L1;rw [L1.length];exact(World.cells?_some g1).2.1
   have yI:a.block<W.heap.size:=(Array.getElem?_eq_some_iff.1 hw).1
   obtain⟨h2,R2,E2,K2,vS,nM⟩:=R1.look (o:=a.off) (l:=eZ.flatten) hw yI (fun i v hv=>by
    have CM:=adR eZ _ yn;have hi:i<eZ.length*P.cellsOf e:=by rw [←CM];exact(List.getElem?_eq_some_iff.1 hv).1
    have UD:=Nat.div_add_mod i (P.cellsOf e);have MA:=Nat.mod_lt i hz;have hq:i / P.cellsOf e<eZ.length:=Nat.div_lt_of_lt_mul (by rw [Nat.mul_comm];exact hi);have iM:eZ[i / P.cellsOf e]? =some (eZ[i / P.cellsOf e]):=zab hq;have MB:=UB eZ _ yn _ (i % P.cellsOf e) _ iM MA;rw [show i / P.cellsOf e*P.cellsOf e+i % P.cellsOf e=i by rw [Nat.mul_comm];exact UD]at MB;rw [MB]at hv;have wc:i / P.cellsOf e<len:=by omega
    have hd:kU[i / P.cellsOf e]? =some (kU[i / P.cellsOf e]'(by omega)):=zab (by omega);obtain⟨ew,g1,_⟩:=adS _ _ hd;obtain⟨L1,_⟩:=hA _ _ _ iM (wb _ _ hd);rw [g1]at L1;obtain⟨v',a1,a2⟩:=L1.get _ _ hv;obtain⟨_,b1,b2⟩:=World.cells?_some g1;have b3:=b2 (i % P.cellsOf e) MA;have UE:ew[i % P.cellsOf e]? =some v':=a1;rw [UE]at b3;refine⟨v',?_,a2⟩
    have e1:(a.add (i / P.cellsOf e*P.cellsOf e)).add (i % P.cellsOf e)=a.add i:=by
     rw [si a UC,si _ rfl,si a UC];simp only [Addr.mk.injEq,true_and,and_true];rw [Nat.mul_comm];omega
    rw [e1,ayG]at b3;exact b3)
   refine⟨_,h2,[.slice (some ⟨h1.nx,a.off,none⟩) len cap],R2,E1.trans E2 K1.nx,K1.trans K2,.cons _ _ _ _ (.sl _ _ _ _ _ (by simp [aY.put]) (.inl ⟨ayD,rfl,hlen,fun _=>?_⟩)) .nil,?_⟩
   · intro b d n hl;have kS:(φ1.put h1.nx (.live a.block 0 arr.size)) h1.nx=some (.live b d n):=hl;rw [aY.me]at kS;cases kS;exact⟨rfl,rfl,UC⟩
   · exact .sl t e h1.nx a.off len cap kU rest eZ hu hn hlen lO (by omega) yn vS (fun i cs d g1 g2=>((hA i cs _ g1 (wb i d g2)).2).bt K2 R1.top)
theorem LR.UF {φ v}(h:VR φ v v):LR φ [v] [v]:=.cons _ _ _ _ h .nil
theorem amG {α:Type}{l:List α}{o n j:Nat}(hj:j<n):((l.drop o).take n)[j]? =l[o+j]? :=by
 rw [List.getElem?_take,if_pos hj,List.getElem?_drop]
theorem ayH {W:World}:∀(n:Nat) (t:TypeId) (ew:ZZE) (x:DataW H×List MemPlace) (fuel:Nat),FK P n t=true→DataW.trod enc P W 0 (fun _=>true) true fuel t ew=some x→Ix P W t ew x.1:=by
  intro n
  induction n with
  | zero=>intro t ew x fuel hp;cases hp
  | succ n ih=>
    intro t ew x fuel hp ht;rw [FK]at hp;cases hu:P.underlying t with
    | none=>rw [hu]at hp;cases hp
    | some ty=>
      rw [hu]at hp;cases ty<;>first | (exact Bool.noConfusion hp) | skip
      case bool=>
        obtain⟨b,rfl,rfl⟩:=DataW.trod_bool hu ht;exact fun φ h R=>⟨φ,h,_,R,Ext.refl _ _,eK.refl _,LR.UF (.bool _),.bool t _ hu⟩
      case int k=>
        obtain⟨m,rfl,rfl,hw⟩:=DataW.trod_int hu ht;exact fun φ h R=>⟨φ,h,_,R,Ext.refl _ _,eK.refl _,LR.UF (.int _ _),.int t _ _ hu hw⟩
      case string=>
        obtain⟨s,rfl,rfl,hs⟩:=DataW.trod_string hu ht;exact fun φ h R=>⟨φ,h,_,R,Ext.refl _ _,eK.refl _,LR.UF (.str _),.str t _ hu hs⟩
      case slice e=>
        simp only [zae,zap]at hp;rcases DataW.trod_slice hu ht with⟨rfl,rfl⟩ | ⟨a,len,cap,kU,rest,m,_,rfl,rfl,_,Uo,hcm,Mz,he,hr,_⟩
        · exact fun φ h R=>⟨φ,h,_,R,Ext.refl _ _,eK.refl _,LR.UF .qW,.qW t e hu⟩
        · obtain⟨hrl,hr⟩:=hr rfl;refine ayC hu hp.1 Uo hcm (by simp [Mz]) (by simp [hrl]) fun i d hd=>?_;rw [←List.map_append,zaJ,zbx]at hd;obtain⟨y,hy,rfl⟩:=hd
          have key:(W.cells? 0 (a.add (i*P.cellsOf e)) (P.cellsOf e)).bind (DataW.trod enc P W 0 (fun _=>true) true m e)=some y:=by
            rcases Nat.lt_or_ge i len with h1 | h1
            · rw [he i h1];rw [zaC (by omega)]at hy;exact hy
            · have hi:i<kU.length+rest.length:=by
                have:=(List.getElem?_eq_some_iff.1 hy).1;simpa using this
              have:=hr (i-len) (by omega);rw [show len+(i-len)=i by omega]at this;rw [this];rw [zaB (by omega),Mz]at hy;exact hy
          rw [Option.bind_eq_some_iff]at key;obtain⟨ew,h1,h2⟩:=key;exact⟨ew,h1,ih e ew y m hp.2 h2⟩
      case struct fs=>
        simp only [zae]at hp;obtain⟨xs,m,_,rfl,hl,vf,hx⟩:=DataW.trod_struct hu ht;intro φ h R
        obtain⟨φ1,h1,cs,R1,E1,K1,_,L1,A1⟩:=ayB (P:=P) (W:=W) hl fs.toList (xs.map (·.1)) 0 hp.1 (by simp [vf]) (fun i f d g1 g2=>by
          rw [zaJ,zbx]at g2;obtain⟨y,hy,rfl⟩:=g2;have UG:fs[i]? =some f:=by simpa using g1
          have:=hx i f UG;rw [hy]at this;exact ih f.type _ y m (List.all_eq_true.1 hp.2 f (zat g1)) this) φ h R
        rw [zbB]at L1;refine⟨φ1,h1,cs,R1,E1,K1,L1,.struct t fs cs _ hu (by rw [L1.length];exact hl) (by simp [vf]) fun i f d g1 g2=>?_⟩;have:=(A1 i f d (by simpa using g1) g2).2
        rwa [Nat.sub_zero]at this
      case array k e=>
        simp only [zae,zbg]at hp;obtain⟨xs,m,_,rfl,hl,vf,hx⟩:=DataW.trod_array hu ht;intro φ h R
        let l:List (ZZE×DataW H):=(List.range k).map fun i=>((ew.drop (i*P.cellsOf e)).take (P.cellsOf e),(xs.map (·.1)).getD i .nil)
        have wb:∀(i:Nat) (d:DataW H),(xs.map (·.1))[i]? =some d→l[i]? =some ((ew.drop (i*P.cellsOf e)).take (P.cellsOf e),d):=by
          intro i d hd;have hi:i<k:=by rw [←vf];have:=(List.getElem?_eq_some_iff.1 hd).1;simpa using this
          show((List.range k).map fun i=>((ew.drop (i*P.cellsOf e)).take (P.cellsOf e),(xs.map (·.1)).getD i .nil))[i]? =_;rw [zaJ,zbf hi,Option.map_some,zaH,hd];rfl
        have qm:l.length=k:=by simp [l]
        have Iy:∀i,i<k→∃y,xs[i]? =some y∧(xs.map (·.1))[i]? =some y.1:=fun i hi=>⟨xs[i]'(by omega),zab (by omega),by rw [zaJ,zab (by omega)];rfl⟩
        obtain⟨φ1,h1,eZ,R1,E1,K1,ly,hA⟩:=amF (P:=P) (W:=W) (t:=e) l (fun x jT=>by
          obtain⟨i,hi⟩:=zaV jT;have wc:i<k:=by rw [←qm];exact(List.getElem?_eq_some_iff.1 hi).1
          obtain⟨y,UH,MC⟩:=Iy i wc;rw [wb i _ MC]at hi;cases hi;have:=hx i wc;rw [UH]at this;exact ih e _ y m hp.2 this) φ h R
        have r8:∀i,i<k→((ew.drop (i*P.cellsOf e)).take (P.cellsOf e)).length=P.cellsOf e:=by
          intro i hi;rw [za3,List.length_drop,hl,←hp.1];have:(i+1)*P.cellsOf e≤k*P.cellsOf e:=zbm _ hi;rw [zaR]at this;omega
        have yn:∀cs∈eZ,cs.length=P.cellsOf e:=by
          intro cs iM;obtain⟨i,hi⟩:=zaV iM;have wc:i<k:=by rw [←qm,←ly];exact(List.getElem?_eq_some_iff.1 hi).1
          obtain⟨y,UH,MC⟩:=Iy i wc;obtain⟨L1,_⟩:=hA i cs _ hi (wb i _ MC);rw [L1.length];exact r8 i wc
        have CM:=adR eZ _ yn;have ayI:eZ.length=k:=by omega
        have amH:eZ.flatten.length=P.cellsOf t:=by rw [CM,ayI,hp.1]
        refine⟨φ1,h1,eZ.flatten,R1,E1,K1,LR.abh (by omega) fun i v v' g1 g2=>?_,.arr t e k _ _ hu amH (by simp [vf]) fun i d g=>?_⟩
        · have hi:i<k*P.cellsOf e:=by rw [hp.1,←amH];exact(List.getElem?_eq_some_iff.1 g1).1
          have hz:0<P.cellsOf e:=by
            rcases Nat.eq_zero_or_pos (P.cellsOf e)with h0 | h0
            · rw [h0,Nat.mul_zero]at hi;omega
            · exact h0
          have MA:=Nat.mod_lt i hz;have hq:i / P.cellsOf e<k:=Nat.div_lt_of_lt_mul (by rw [Nat.mul_comm];exact hi);have iM:eZ[i / P.cellsOf e]? =some (eZ[i / P.cellsOf e]'(by omega)):=zab (by omega);have MB:=UB eZ _ yn _ (i % P.cellsOf e) _ iM MA;have UD:=Nat.div_add_mod i (P.cellsOf e);rw [show i / P.cellsOf e*P.cellsOf e+i % P.cellsOf e=i by rw [Nat.mul_comm];exact UD]at MB;rw [MB]at g1;obtain⟨y,UH,MC⟩:=Iy _ hq;obtain⟨L1,_⟩:=hA _ _ _ iM (wb _ _ MC);obtain⟨u,a1,a2⟩:=L1.get _ _ g1;have UE:((ew.drop (i / P.cellsOf e*P.cellsOf e)).take (P.cellsOf e))[i % P.cellsOf e]? =some u:=a1;rw [amG MA,show i / P.cellsOf e*P.cellsOf e+i % P.cellsOf e=i by rw [Nat.mul_comm];exact UD,g2]at UE;cases UE;exact a2
        · have hi:i<k:=by rw [←vf];have:=(List.getElem?_eq_some_iff.1 g).1;simpa using this
          have iM:eZ[i]? =some (eZ[i]'(by omega)):=zab (by omega)
          have e1:((eZ.flatten.drop (i*P.cellsOf e)).take (P.cellsOf e))=eZ[i]'(by omega):=by
            refine List.ext_getElem? fun j=>?_;rcases Nat.lt_or_ge j (P.cellsOf e)with hj | hj
            · rw [amG hj];exact UB eZ _ yn i j _ iM hj
            · rw [zba (by rw [za3];omega),zba (by rw [yn _ (zbl _)];omega)]
          rw [e1];exact(hA i _ _ iM (wb i _ g)).2
end
end Go.Ve
namespace Go.Ve
open Go.RowKit
open Classical
noncomputable section
def AH.lR (h:AH) (b:Nat) (o:AO):AH:=⟨h.nx,h.ob.set b (some o)⟩
def AH.hY (h:AH) (o:AO):AH:=⟨h.nx+1,h.ob.set h.nx (some o)⟩
theorem AH.wa (h:AH)(b:Nat)(o:AO)(f:Nat):(h.lR b o).ob.get f=if f=b then some o else h.ob.get f:=by
 show(h.ob.set b (some o)).get f=_;rw [NT.fR]
theorem AH.xg (h:AH)(o:AO)(f:Nat):(h.hY o).ob.get f=if f=h.nx then some o else h.ob.get f:=by
 show(h.ob.set h.nx (some o)).get f=_;rw [NT.fR]
theorem AH.FG {h:AH}(H:h.Ok)(o:AO):(h.hY o).Ok:=fun f hf=>by
 have:h.nx+1≤f:=hf;rw [AH.xg,if_neg (by omega)];exact H f (by omega)
theorem AH.Ij {h:AH}(H:h.Ok){b:Nat}(hb:b<h.nx)(o:AO):(h.lR b o).Ok:=fun f hf=>by
 have:h.nx≤f:=hf;rw [AH.wa,if_neg (by omega)];exact H f this
theorem eK.hY (h:AH)(o:AO):eK h (h.hY o):=⟨za5 _,fun f hf=>by rw [AH.xg,if_neg (by omega)]⟩
theorem eK.lR {a h}(H:eK a h){b:Nat}(hb:a.nx≤b)(o:AO):eK a (h.lR b o):=⟨H.nx,fun f hf=>by rw [AH.wa,if_neg (by omega)];exact H.get f hf⟩
abbrev LO:=LoopState→Option Code→AO
def isL (lo:LO):Prop:=∃fn tm ps a b d nt,∀st pd,lo st pd= .loop ⟨st,pd,fn,tm,ps,a,b,d,nt⟩
def iH:List Nat→W→W | [],K=>K | r::rs,K=>fun h=>h.ob.get r=some (.defs false)∧iH rs K (h.lR r (.defs true))
def gn (rs:List Nat):DS:=⟨rs.map .wY,.off⟩
def qd:Z→W:=fun _ _=>False
def xl:List (Nat×W)→Nat→W | [],_=>fun _=>False | (j,A)::l,id=>bif Nat.beq id j then A else xl l id
def zW (pd:Option Code) (N Rt:W) (X:List (Nat×W)):W:=match pd with | none=>N | some .ret=>Rt | some (.exit id)=>xl X id | _=>fun _=>False
def wO (lo:LO) (l:Nat) (K:W):W:=fun h=>(∃st pd,h.ob.get l=some (lo st pd))∧K h
def rQ (lo:LO) (l:Nat) (K:W):W:=fun h=>∃pd,h.ob.get l=some (lo .ready pd)∧K (h.lR l (lo .busy pd))
def lg (lo:LO) (l:Nat) (st:LoopState) (pd:Option Code) (b:Bool) (R:Z→W):W:=fun h=>(∃s p,h.ob.get l=some (lo s p))∧R (.bool b) (h.lR l (lo st pd))
def yq (R:Z→W):CR→AH→Prop:=fun r h=>match r with | .ret v=>R v h | .bC _=>False
def rgC (P:Program) (w0:World) (g:FuncId) (first dm:ZZE) (B:LO→Nat→ZZE→(Z→W)→W) (E:Z→W) (K:Option Code→W):W:=fun h=>∀lo:LO,(∀(l:Nat) (vs:ZZE) (R:Z→W) (h:AH),B lo l vs R h→WR P w0 l vs h (yq R))→WF P w0 g (first++ .func (.yield h.nx) ⟨[]⟩ ⟨[]⟩::dm) (h.hY (lo .ready none)) fun r h'=>match r with | .ret _=>∃st pd,h'.ob.get h.nx=some (lo st pd)∧acu st=true∧K pd (h'.lR h.nx (lo .exhausted pd)) | .bC v=>E v h'
def Ev (P:Program) (w0:World) (fv:Z) (B:LO→Nat→ZZE→(Z→W)→W) (E:Nat→Z→W) (K:Nat→Option Code→W):W:=match fv with | .func (.func g) ⟨first⟩ ⟨dm⟩=>fun h=>rgC P w0 g first dm B (E h.nx) (K h.nx) (h.hY (.defs false)) | _=>fun _=>False
def Hk (F:Z→Z→W):ZZE→W | [a,b]=>F a b | _=>fun _=>False
def Ul (σ:Sl):List Pos→ZZE→Sl | [],_=>σ | _,[]=>σ | p::ps,v::vs=>Ul (σ.up p v) ps vs
section
variable {P:Program}{w0:World}
theorem Il (h:AH)(o:AO)(k:Nat→AH→Bool):qs h o k=k h.nx (h.hY o):=ac2 h o k
theorem CH (h:AH)(b:Nat)(o:AO)(k:AH→Bool):kQ h b (some o) k=k (h.lR b o):=ac1 h b (some o) k
theorem Um {h b r}(hr:h.ob.get b=some (.loop r))(k:qi→Bool):uT h b k=k r:=by
 unfold uT;rw [AT hr]
theorem ax4 {h b t}(hr:h.ob.get b=some (.defs t))(k:Bool→Bool):HV h b k=k t:=by
 unfold HV;rw [AT hr]
theorem ax5 (g:FuncId)(first dm:ZZE)(kf:Nat→ZZE→ZZE→Bool)(ky:Nat→Bool):Cf (.func (.func g) ⟨first⟩ ⟨dm⟩) kf ky=kf g first dm:=rfl
theorem al9:∀ {ps vs t k},ps.length=vs.length→(∀t':PT,t'.get=Ul t.get ps vs→k t'=true)→HW ps vs t k=true
 | [],[],t,k,_,hk=>hk t rfl
 | p::ps,v::vs,t,k,hl,hk=>by
  show PT.lh p t v (fun t=>HW ps vs t k)=true;rw [PT.rZ];refine al9 (by simpa using hl) fun t' Cm=>hk t' ?_;rw [Cm,Sl.alZ];rfl
def adh (lo:LO) (l:Nat) (R:Z→W):PQ:=fun x _ d h=>d.df=[]∧(match x with | .normal=>lg lo l .ready none true R h | .ret=>lg lo l .done (some .ret) false R h | .exit id=>lg lo l .done (some (.exit id)) false R h | .bC _=>False)
def adi (P:Program) (w0:World) (lo:LO) (l:Nat) (b:fw) (e:Env) (R:Z→W):PQ:=fun x σ d h=>match x with | .normal=>rQ lo l (fun h=>gM P w0 b e σ d h (adh lo l R)) h | _=>False
theorem ax6 (cq:P.follows .mixedOrders=true){fn:FuncId}{nt:Nat}{tm:PT}{ps:List Pos}{a b:fw}{dfs:Nat}{lo:LO}(xh:∀st pd,lo st pd= .loop ⟨st,pd,fn,tm,ps,a,b,dfs,nt⟩){l:Nat}{vs:ZZE}{h:AH}{R:Z→W}
 (hl:∃st pd,h.ob.get l=some (lo st pd)) (hlen:ps.length=vs.length) (H:gM P w0 a ⟨fn,nt,some l⟩ (Ul tm.get ps vs) ⟨[],.off⟩ h (adi P w0 lo l b ⟨fn,nt,some l⟩ R)):WR P w0 l vs h (yq R):=by
 obtain⟨st,pd,hl⟩:=hl;rw [xh]at hl;show Ap P w0 l vs h (fun r h=>decide (yq R r h));refine aj2 (rec:=jM P w0) (Mi P w0) ?_;show uT h l (fun r=>HW r.params vs r.tm fun tm=>jM P w0 (.code r.assign ⟨r.fn,r.nt,some l⟩ ⟨tm,[],.off,h⟩ (abT (jM P w0) l r _)))=true;rw [Um hl];refine al9 hlen fun t' Cm=>?_;refine rk P w0 (fS.FB (fun x s hx=>?_) (TZ cq a H t' Cm));have jT:=zao hx;cases x with
 | normal=>
  obtain⟨CI,h1,h2⟩:rQ lo l (fun h=>gM P w0 b ⟨fn,nt,some l⟩ s.tm.get ⟨s.df,s.rc⟩ h (adh lo l R)) s.h:=jT;rw [xh]at h1;show uT s.h l (fun r=>iff (isReady r.state) (kQ s.h l (some (.loop (r.nK .busy r.gq))) fun h=>jM P w0 (.code b ⟨fn,nt,some l⟩ ⟨s.tm,s.df,s.rc,h⟩ (Th l _))))=true;rw [Um h1];show iff true (kQ s.h l (some (.loop ⟨.busy,CI,fn,tm,ps,a,b,dfs,nt⟩)) fun h=>jM P w0 (.code b ⟨fn,nt,some l⟩ ⟨s.tm,s.df,s.rc,h⟩ (Th l fun r h=>decide (yq R r h))))=true;rw [jh,CH,←xh];refine rk P w0 (fS.FB (fun x s hx=>?_) (TZ cq b h2 s.tm rfl));obtain⟨hd,jT⟩:=zao hx;have TM:s.df=[]:=hd;show Cl s.df _=true;rw [TM]
  have fin:∀(j:Option Code) (st:LoopState) (b':Bool),lg lo l st j b' R s.h→LD l s.h (fun r h=>decide (yq R r h)) j st b'=true:=fun j st b' hf=>by
   obtain⟨⟨s1,p1,h3⟩,h4⟩:=hf;rw [xh]at h3;show uT s.h l _=true;rw [Um h3];show kQ s.h l (some (.loop ⟨st,j,fn,tm,ps,a,b,dfs,nt⟩)) _=true;rw [CH,←xh];exact zac h4
  cases x with
  | normal=>exact fin _ _ _ jT
  | ret=>exact fin _ _ _ jT
  | exit id=>exact fin _ _ _ jT
  | bC v=>exact jT.elim
 | exit id=>exact False.elim jT
 | ret=>exact False.elim jT
 | bC v=>exact False.elim jT
def adj (Q:PQ) (σ:Sl) (d:DS) (pd:Option Code) (h:AH):Prop:=match pd with | none=>Q .normal σ d h | some .ret=>Q .ret σ d h | some (.exit id)=>Q (.exit id) σ d h | _=>False
theorem ax7 {e tm df rc ps a b g first dm h dl B E K Q s}(mV:s.tm=tm)(oh:s.rc=rc)
 (H:rgC P w0 g first dm B E K h) (hB:∀lo:LO,(∀st pd,lo st pd= .loop ⟨st,pd,e.fn,tm,ps,a,b,dl,e.nt⟩)→∀(l:Nat) (vs:ZZE) (R:Z→W) (h:AH),B lo l vs R h→WR P w0 l vs h (yq R))
 (hE:∀v h,E v h→Q (.bC v) tm.get ⟨df,rc⟩ h) (hK:∀pd h,K pd h→adj Q tm.get ⟨df,rc⟩ pd h):Ls (jM P w0) e s (fun x s=>decide (Q x s.tm.get ⟨s.df,s.rc⟩ s.h)) ps a b g first dm h dl df=true:=by
 show qs h (.loop ⟨.ready,none,e.fn,s.tm,ps,a,b,dl,e.nt⟩) (fun l h=>mc first (.func (.yield l) ⟨[]⟩ ⟨[]⟩::dm) fun args=>jM P w0 (.call g args h (abF s df _ l)))=true;rw [Il,CC,mV];refine rk P w0 (lz.mono (fun r h' hr=>?_) (H (fun st pd=>.loop ⟨st,pd,e.fn,tm,ps,a,b,dl,e.nt⟩) (hB _ fun _ _=>rfl)));have qX:=zao hr;cases r with
 | ret v=>
  obtain⟨st,pd,h1,h2,h3⟩:=qX;show uT h' h.nx _=true;rw [Um h1];show iff (acu st) (kQ h' h.nx (some (.loop ⟨.exhausted,pd,e.fn,tm,ps,a,b,dl,e.nt⟩)) _)=true;rw [h2,jh,CH];have:=hK pd _ h3;unfold adj at this;unfold SW;rw [mV,oh];split at this
  · exact zac this
  · exact zac this
  · exact zac this
  · exact this.elim
 | bC v=>
  show decide (Q (.bC v) s.tm.get ⟨df,s.rc⟩ h')=true;rw [mV,oh];exact zac (hE v h' qX)
theorem ax8 {Q σ d N Rt X}(hN:∀h,N h→Q .normal σ d h)(hR:∀h,Rt h→Q .ret σ d h)(hX:∀p∈X,∀h,p.2 h→Q (.exit p.1) σ d h)(pd:Option Code)(h:AH)(H:zW pd N Rt X h):adj Q σ d pd h:=by
 unfold zW at H;split at H
 · exact hN _ H
 · exact hR _ H
 · rename_i id;show Q (.exit id) σ d h
   induction X with
   | nil=>exact H.elim
   | cons p X ih=>
    obtain⟨j,A⟩:=p;have H':(bif Nat.beq id j then A else xl X id) h:=H;cases hj:Nat.beq id j with
    | true=>
     rw [hj]at H';have:=zar hj;subst this;exact hX _ zai _ H'
    | false=>
     rw [hj]at H';exact ih (fun p hp=>hX p (zaj _ hp)) H'
 · exact H.elim
def adk (Q:PQ) (σ:Sl) (d:DS):List (Nat×W)→Prop | []=>True | (j,A)::l=>(∀h,A h→Q (.exit j) σ d h)∧adk Q σ d l
theorem ama {Q σ d}:∀{X:List (Nat×W)},adk Q σ d X→∀p∈X,∀h,p.2 h→Q (.exit p.1) σ d h
 | [],_,p,hp=>by cases hp
 | (j,A)::l,⟨h1,h2⟩,p,hp=>by
  rcases List.mem_cons.1 hp with rfl | hp
  · exact h1
  · exact ama h2 p hp
theorem Rs (cq:P.follows .mixedOrders=true){fn:FuncId}{nt:Nat}{f:gp}{ps:List Pos}{a b:fw}{σ:Sl}{rs:List Nat}{h:AH}{Q:PQ}{fv:Z}(B:LO→Nat→ZZE→(Z→W)→W)(E:Nat→Z→W)(N Rt:Nat→W)(X:Nat→List (Nat×W))
 (hf:iq σ f=fv) (H:Ev P w0 fv B E (fun r pd=>zW pd (N r) (Rt r) (X r)) h) (hE:∀r v h,E r v h→Q (.bC v) σ (gn (r::rs)) h)
 (hN:∀r h,N r h→Q .normal σ (gn (r::rs)) h) (hR:∀r h,Rt r h→Q .ret σ (gn (r::rs)) h) (hX:∀r,adk Q σ (gn (r::rs)) (X r))
 (hB:∀(lo:LO) (_:isL lo) (l:Nat) (vs:ZZE) (R:Z→W) (h:AH),B lo l vs R h→(∃st pd,h.ob.get l=some (lo st pd))∧ps.length=vs.length∧gM P w0 a ⟨fn,nt,some l⟩ (Ul σ ps vs) ⟨[],.off⟩ h (adi P w0 lo l b ⟨fn,nt,some l⟩ R)):
 gM P w0 (.tr f ps a b) ⟨fn,nt,none⟩ σ (gn rs) h Q:=by
 intro tm ik;subst ik;refine yK cq ?_;show As f tm (fun fv=>Cf fv (fun g first dm=>qs h (.defs false) fun r h=>Ls (jM P w0) ⟨fn,nt,none⟩ ⟨tm,rs.map .wY,.off,_⟩ _ ps a b g first dm h r (.wY r::rs.map .wY)) tC)=true;rw [acE,acU,hf];unfold Ev at H;split at H
 · rename_i g first dm
   rw [ax5,Il];refine ax7 rfl rfl H (fun lo xh l vs R h hb=>?_) (fun v h hv=>hE _ v h hv) (fun pd h hk=>ax8 (hN _) (hR _) (ama (hX _)) pd h hk);obtain⟨h1,h2,h3⟩:=hB lo ⟨_,_,_,_,_,_,_,xh⟩ l vs R h hb;exact ax6 cq xh h1 h2 h3
 · exact H.elim
theorem Rv {lo l K h}(H:wO lo l K h):(∃st pd,h.ob.get l=some (lo st pd))∧K h:=H
theorem ax9 {lo l K K' h}(H:rQ lo l K h)(hk:∀h,K h→K' h):rQ lo l K' h:=by
 obtain⟨pd,h1,h2⟩:=H;exact⟨pd,h1,hk _ h2⟩
theorem Rw {lo l K b e R σ d h}(H:rQ lo l K h)(hk:∀h,K h→gM P w0 b e σ d h (adh lo l R)):adi P w0 lo l b e R .normal σ d h:=ax9 H hk
theorem Ru {F vs h}(H:Hk F vs h):∃a b,vs=[a,b]∧F a b h:=by
 unfold Hk at H;split at H
 · exact⟨_,_,rfl,H⟩
 · exact H.elim
theorem adl {K m}:∀{rs:List Nat}{h:AH},iH rs (K m) h→WL P w0 (rs.map .wY) m h K
 | [],h,H=>H
 | r::rs,h,H=>by
  obtain⟨h1,h2⟩:h.ob.get r=some (.defs false)∧iH rs (K m) (h.lR r (.defs true)):=H;have ih:=adl (rs:=rs) h2;refine abK (rec:=jM P w0) (Mi P w0) ?_;show HV h r (fun t=>iff (!t) (kQ h r (some (.defs true)) fun h=>jM P w0 (.leave (rs.map .wY) m h _)))=true;rw [ax4 h1];rw [zaZ,jh,CH];exact acX (fun m h hm=>zac hm) ih
theorem tc {Q:PQ}{σ:Sl}{d:DS}{h:AH}(res:List qV)(R:CR→AH→Prop)(rs:List Nat)(hQ:Q .ret σ d h=Mk P w0 res R .ret σ (gn rs) h)(H:iH rs (fun h=>sj res σ h fun vs=>R (.ret (FC vs)) h) h):Q .ret σ d h:=by
 rw [hQ];exact adl (m:=none) (K:=fun m h=>match m with | none=>sj res σ h fun vs=>R (.ret (FC vs)) h | some v=>R (.bC v) h) H
theorem oR {Q:PQ}{σ:Sl}{d:DS}{h:AH}{v:Z}(res:List qV)(R:CR→AH→Prop)(rs:List Nat)(hQ:Q (.bC v) σ d h=Mk P w0 res R (.bC v) σ (gn rs) h)(H:iH rs (fun h=>R (.bC v) h) h):Q (.bC v) σ d h:=by
 rw [hQ];exact adl (m:=some v) (K:=fun m h=>match m with | none=>res=[]∧R (.ret (.tuple ⟨[]⟩)) h | some v=>R (.bC v) h) H
def cE (rs:List Nat) (E:Z→W):Z→W:=fun v=>iH rs (E v)
section
variable {e:Env}{σ:Sl}{h:AH}{Q:PQ}{a b c:fw}
theorem mS {α}(U:List (Pos×Z))(M:α→List (Pos×Z))(π:Sl→α)(J:α→List Nat→W){rs:List Nat}(hM:∀σ,tL σ (M (π σ)))(hb:∀(x:α) (rs:List Nat) (σ:Sl) (h:AH),J x rs h→gM P w0 b e ((σ.xf U).xf (M x)) (gn rs) h Q)
 (ha:gM P w0 a e σ (gn rs) h (CB (fun σ d' h=>∃AV,d'=gn AV∧tL σ U∧J (π σ) AV h) Q)):gM P w0 (.seq a b) e σ (gn rs) h Q:=by
 refine T0 a (fun x σ d' h hx=>?_) ha;cases x with
 | normal=>
  obtain⟨AV,rfl,h2,h3⟩:=hx;have:=hb (π σ) AV σ h h3
  rwa [AU h2,AU (hM σ)]at this
 | _=>exact hx
theorem Kz (cq:P.follows .mixedOrders=true){α:Type}(U:List (Pos×Z))(M:α→List (Pos×Z))(π:Sl→α)(F:(α×List Nat→W)→α×List Nat→W)(hM:∀σ,tL σ (M (π σ)))
 (hF:∀(k:α×List Nat→W) (x:α) (rs:List Nat) (σ:Sl) (h:AH),F k (x,rs) h→gM P w0 c e ((σ.xf U).xf (M x)) (gn rs) h (CB (fun σ d' h=>∃AV,d'=gn AV∧tL σ U∧k (π σ,AV) h) Q)){x:α}{rs:List Nat}(hx:π σ=x) (hU:tL σ U) (H:LP F (x,rs) h):gM P w0 (.loop c) e σ (gn rs) h Q:=by
 subst hx;obtain⟨n,H⟩:=H
 have key:∀n rs σ h,tL σ U→gg F n (π σ,rs) h→WC P w0 (.loop c) e σ (gn rs) h Q:=by
  intro n
  induction n with
  | zero=>intro rs σ h _ H;exact H.elim
  | succ n ih=>
   intro rs σ h hU H;refine acW cq ?_;have h1:=hF (gg F n) (π σ) rs σ h H;rw [AU hU,AU (hM σ)]at h1;refine T0 c (fun x σ d' h hx=>?_) h1;cases x with
   | normal=>
    obtain⟨AV,rfl,h2,h3⟩:=hx;exact ih AV σ h h2 h3
   | _=>exact hx
 exact key n rs σ h hU H
end
end
end
end Go.Ve
namespace Go.Ve
open Go.RowKit
noncomputable section
def AH.kill (h:AH) (b:Nat):AH:=⟨h.nx,h.ob.set b none⟩
theorem AH.Un (h:AH)(b f:Nat):(h.kill b).ob.get f=if f=b then none else h.ob.get f:=by
 show(h.ob.set b none).get f=_;rw [NT.fR]
theorem AH.amb {h:AH}(H:h.Ok)(b:Nat):(h.kill b).Ok:=fun f hf=>by
 rw [AH.Un];split
 · rfl
 · exact H f hf
theorem amc (h:AH)(b:Nat)(k:AH→Bool):kQ h b none k=k (h.kill b):=ac1 h b none k
section
variable {h:AH}{R:Value→AH→Prop}
theorem aya {zero l ps vs}(hf:∀k:ZZE→Bool,nL zero ps vs k=k l):WP (.build zero ps) vs h R↔R (.agg ⟨l⟩) h:=ef fun k=>hf _
theorem ayb {ty n cells l ps vs}(hf:∀k:ZZE→Bool,nL cells ps vs k=k l)(ha:fi l=true):
 WP (.buildSlice ty n cells ps) vs h R↔R (gD h.nx 0 n n) (h.new ty l):=ef fun k=>by
 show nL cells ps vs (fun l=>pM h ty l fun b h=>k (.slice (some ⟨b,0,none⟩) n n) h)=_;rw [hf,FE h ty ha]
theorem ayc (n:Nat)(zero:ZZE)(k:ZZE→Bool):Hx n zero k=k ((List.replicate n zero).flatten):=by
 induction n generalizing k with
 | zero=>rfl
 | succ n ih=>
  show Hx n zero (fun l=>mc zero l k)=_;rw [ih,CC];rfl
theorem amd {ty sz l c zero k1 k2}(Uo:l≤c)(hc:c≤65536)(hz:zero.length=sz)(ha:fi ((List.replicate c zero).flatten)=true):
 WP (.mkSlice ty sz zero) [.int k1 (l:Int),.int k2 (c:Int)] h R↔R (gD h.nx 0 l c) (h.new ty (List.replicate c zero).flatten):=ef fun k=>by
 show iff (Nat.ble l c&&Nat.ble c 65536&&mA zero sz) (Hx c zero fun cs=>pM h ty cs fun b h=>k (.slice (some ⟨b,0,none⟩) l c) h)=_
 have e:(Nat.ble l c&&Nat.ble c 65536&&mA zero sz)=true:=by
  rw [CG];simp only [zae,zaD,zap];exact⟨⟨Uo,hc⟩,hz⟩
 rw [e,jh,ayc,FE h ty ha]
theorem ayd (sz:Nat)(k:Nat→ZZE→Bool){n c:Nat}:rh h sz (.slice none n c) k=k 0 []:=rfl
theorem aye {sz b o n c l}(hr:h.bH b o l)(hl:l.length=n*sz)(hn:0<n*sz)(k:Nat→ZZE→Bool):rh h sz (gD b o n c) k=k n l:=by
 show(bif Nat.beq n 0 then k 0 []else pL h b o (Nat.mul n sz) fun l=>k n l)=_;have h0:n≠0:=fun e=>by rw [e]at hn;omega
 rw [jt h0];exact Ub hr hl hn _
theorem ayf {sz b o c}(k:Nat→ZZE→Bool):rh h sz (gD b o 0 c) k=k 0 []:=rfl
section
variable {ty:TypeId}{sz n:Nat}{zero xs:List Value}{x:Value}
theorem FH (hx:∀k:Nat→ZZE→Bool,rh h sz x k=k n xs)(h1:1≤sz)(hz:zero.length=sz)(s:Z)(k:KV):
 (Prim.append ty sz zero).ev [s,x] h k=pO s (HY h ty sz n xs k) (HZ h ty sz n xs k):=by
 show rh h sz x (fun n xs=>iff (Nat.ble 1 sz&&mA zero sz) (pO s (HY h ty sz n xs k) (HZ h ty sz n xs k)))=_;rw [hx];have e:(Nat.ble 1 sz&&mA zero sz)=true:=by rw [CG];simp only [zae,zaD,zap];exact⟨h1,hz⟩
 rw [e,jh]
theorem ame (hx:∀k:Nat→ZZE→Bool,rh h sz x k=k 0 xs)(h1:1≤sz)(hz:zero.length=sz){a:Addr}{len cap:Nat}:
 WP (.append ty sz zero) [.slice (some a) len cap,x] h R↔R (.slice (some ⟨a.block,a.off,none⟩) len cap) h:=ef fun k=>by
 rw [FH hx h1 hz];cases a;rfl
theorem ayg (hx:∀k:Nat→ZZE→Bool,rh h sz x k=k 0 xs)(h1:1≤sz)(hz:zero.length=sz){len cap:Nat}:
 WP (.append ty sz zero) [.slice none len cap,x] h R↔R bJ h:=ef fun k=>by
 rw [FH hx h1 hz];rfl
theorem ayh (hx:∀k:Nat→ZZE→Bool,rh h sz x k=k n xs)(h1:1≤sz)(hz:zero.length=sz)(hn:0<n)(hb:n≤1048576)(ha:fi xs=true){len cap:Nat}:
 WP (.append ty sz zero) [.slice none len cap,x] h R↔R (gD h.nx 0 n (bQ+sz)) (h.new ty xs):=ef fun k=>by
 rw [FH hx h1 hz];show(bif Nat.beq n 0 then k (.slice none 0 0) h else iff (Nat.ble n 1048576) (pM h ty xs fun b h=>fN (Nat.add bQ sz) fun cp=>k (.slice (some ⟨b,0,none⟩) n cp) h))=_;have e:Nat.ble n 1048576=true:=by rw [zaD];exact hb
 rw [jt (show n≠0 by omega),e];show pM h ty xs _=_;rw [FE h ty ha,dG];rfl
def AH.grown (h:AH) (b o:Nat) (ty:TypeId) (c:NT Z) (at_ fx:Nat) (xs:ZZE):AH:=(h.kill b).hY (.cells o fx ty true (nR c at_ xs))
theorem ayi (hx:∀k:Nat→ZZE→Bool,rh h sz x k=k n xs)(h1:1≤sz)(hz:zero.length=sz)(hn:0<n){b o len lo hi:Nat}{c:NT Z}{s:Option Nat}(hb:len+n≤1048576)(ha:fi xs=true)
 (hg:h.ob.get b=some (.cells lo hi ty true c)) (xh:lo≤o) (hhi:o+len*sz≤hi):
 WP (.append ty sz zero) [.slice (some ⟨b,o,s⟩) len (bQ+sz),x] h R↔R (gD h.nx o (len+n) (bQ+sz)) (h.grown b o ty c (o+len*sz) (o+(len+n)*sz) xs):=ef fun k=>by
 rw [FH hx h1 hz];show(bif Nat.beq n 0 then k (.slice (some ⟨b,o,none⟩) len (bQ+sz)) h else fN (Nat.add len n) fun mh=>iff (Nat.ble mh 1048576) (bif Nat.ble bQ (bQ+sz)then Tk h ty sz xs b o len (bQ+sz) mh k else _))=_;have e:Nat.ble (len+n) 1048576=true:=by rw [zaD];exact hb
 have e2:Nat.ble bQ (bQ+sz)=true:=by rw [zaD];omega
 rw [jt (show n≠0 by omega)];simp only [zak];rw [dG,show Nat.add len n=len+n from rfl,e,jh,e2];simp only [zam];unfold Tk;have e3:Nat.beq (bQ+sz) (Nat.add bQ sz)=true:=by rw [Nat.beq_eq];rfl
 rw [e3,jh];unfold rf;rw [AT hg];show iff (true&&Nat.beq ty ty&&Nat.ble lo o&&Nat.ble (Nat.add o (Nat.mul len sz)) hi&&fi xs) _=_
 have e4:(true&&Nat.beq ty ty&&Nat.ble lo o&&Nat.ble (Nat.add o (Nat.mul len sz)) hi&&fi xs)=true:=by
  simp only [zae,zaD,Nat.beq_eq];exact⟨⟨⟨⟨trivial,trivial⟩,xh⟩,hhi⟩,ha⟩
 rw [e4,jh,amc,dG,T4,dG,ac2];rfl
theorem ayj (hx:∀k:Nat→ZZE→Bool,rh h sz x k=k n xs)(h1:1≤sz)(hz:zero.length=sz)(hn:0<n){b o len cap:Nat}{s:Option Nat}{old:ZZE}(hb:len+n≤1048576)(hc:cap<len+n)(ha:fi (old++xs)=true)
 (hl:0<len) (hr:h.bH b o old) (ho:old.length=len*sz):
 WP (.append ty sz zero) [.slice (some ⟨b,o,s⟩) len cap,x] h R↔R (gD h.nx 0 (len+n) (bQ+sz)) (h.new ty (old++xs)):=ef fun k=>by
 rw [FH hx h1 hz];show(bif Nat.beq n 0 then k (.slice (some ⟨b,o,none⟩) len cap) h else fN (Nat.add len n) fun mh=>iff (Nat.ble mh 1048576) (bif Nat.ble bQ cap then _ else bif Nat.ble mh cap then _ else bif Nat.beq len 0 then _ else pL h b o (Nat.mul len sz) fun old=>mc old xs fun l=>pM h ty l fun b' h=>fN (Nat.add bQ sz) fun cp=>k (.slice (some ⟨b',0,none⟩) mh cp) h))=_;have e:Nat.ble (len+n) 1048576=true:=by rw [zaD];exact hb
 have e2:Nat.ble bQ cap=false:=by
  have:¬bQ≤cap:=by unfold bQ;omega
  cases hh:Nat.ble bQ cap with
  | false=>rfl
  | true=>rw [zaD]at hh;exact absurd hh this
 have e3:Nat.ble (len+n) cap=false:=by
  cases hh:Nat.ble (len+n) cap with
  | false=>rfl
  | true=>rw [zaD]at hh;omega
 rw [jt (show n≠0 by omega)];simp only [zak];rw [dG,show Nat.add len n=len+n from rfl,e,jh,e2,e3,jt (show len≠0 by omega)];simp only [zak];have uW:0<len*sz:=Nat.mul_pos hl h1;rw [show Nat.mul len sz=len*sz from rfl,Ub hr ho uW,CC,FE h ty ha,dG];rfl
end
theorem ayk {s}:WP .Ks [.string s] h R↔R (ak h.nx 0) (h.hY (.kP s 0)):=ef fun k=>by
 show qs h (.kP s 0) (fun b h=>k (ak b 0) h)=_;rw [Il]
theorem adm {b s pos sp}(hg:h.ob.get b=some (.kP s pos))(k:KV):(Prim.BV).ev [.pointer (some ⟨b,0,sp⟩)] h k=EW h b k s pos:=by
 show Ti h b (EW h b k)=_;unfold Ti;rw [AT hg]
theorem ayl {b s pos sp}(hg:h.ob.get b=some (.kP s pos))(hc:s.data.toList[pos]? =none):WP .BV [.pointer (some ⟨b,0,sp⟩)] h R↔R (.tuple ⟨[.bool false]⟩) h:=ef fun k=>by
 rw [adm hg];unfold EW;rw [hc]
theorem aym {b s pos sp c}(hg:h.ob.get b=some (.kP s pos))(hc:s.data.toList[pos]? =some c)(ha:c.toNat<128):
 WP .BV [.pointer (some ⟨b,0,sp⟩)] h R↔R (.tuple ⟨[.bool true,vi (pos:Int),.int .i32 (c.toNat:Int)]⟩) (h.lR b (.kP s (pos+1))):=ef fun k=>by
 rw [adm hg];unfold EW;rw [hc];have e:Nat.ble (Nat.succ c.toNat) 128=true:=by rw [zaD];exact ha
 simp only [e,zam];rw [dG,CH,dG];rfl
theorem ayn {b s pos sp c}(hg:h.ob.get b=some (.kP s pos))(hc:s.data.toList[pos]? =some c)(ha:128≤c.toNat):
 WP .BV [.pointer (some ⟨b,0,sp⟩)] h R↔R (.tuple ⟨[.bool true,vi (pos:Int),.int .i32 ((Utf8.decode s pos).1:Int)]⟩) (h.lR b (.kP s (pos+(Utf8.decode s pos).2))):=ef fun k=>by
 rw [adm hg];unfold EW;rw [hc]
 have e:Nat.ble (Nat.succ c.toNat) 128=false:=by
  cases hh:Nat.ble (Nat.succ c.toNat) 128 with
  | false=>rfl
  | true=>rw [zaD]at hh;omega
 simp only [e,zak];rw [CH];rfl
theorem ayo:WP .mkMap [] h R↔R (.map (some h.nx)) (h.hY (.map [] 0)):=ef fun k=>by
 show qs h (.map [] 0) (fun b h=>k (.map (some b)) h)=_;rw [Il]
end
open Classical
def AH.xi (h:AH) (b:Nat):Nat→Nat→Option (ZZE) | _,0=>some [] | o,n+1=>match h.rd b o with | none=>none | some v=>match h.xi b (o+1) n with | none=>none | some l=>some (v::l)
theorem AH.amf {h:AH}{b:Nat}:∀{n o:Nat}{l:ZZE},h.xi b o n=some l→l.length=n∧h.bH b o l
 | 0,o,l,e=>by cases e;exact⟨rfl,AH.T7 h b o⟩
 | n+1,o,l,e=>by
  unfold AH.xi at e;split at e
  · cases e
  · rename_i v hv;split at e
    · cases e
    · rename_i m hm;cases e;obtain⟨h1,h2⟩:=AH.amf hm;exact⟨by simp [h1],AH.al5.2 ⟨hv,h2⟩⟩
theorem AH.amg {h:AH}{b:Nat}:∀{l:ZZE}{n o:Nat},l.length=n→h.bH b o l→h.xi b o n=some l
 | [],n,o,hn,_=>by subst hn;rfl
 | v::l,n,o,hn,hr=>by
  subst hn;obtain⟨h1,h2⟩:=AH.al5.1 hr;show(match h.rd b o with | none=>none | some v=>match h.xi b (o+1) l.length with | none=>none | some l=>some (v::l))=_;rw [h1,AH.amg rfl h2]
theorem AH.adn (h:AH)(b o:Nat):h.xi b o 0=some []:=rfl
theorem AH.ado (h:AH)(b o n:Nat):h.xi b o (n+1)=(h.rd b o).bind fun v=>(h.xi b (o+1) n).map (v:: ·):=by
 show(match h.rd b o with | none=>none | some v=>match h.xi b (o+1) n with | none=>none | some l=>some (v::l))=_;cases h.rd b o with
 | none=>rfl
 | some v=>cases h.xi b (o+1) n<;>rfl
theorem AH.Up (h:AH)(ty:TypeId)(l:ZZE)(b o n:Nat):(h.new ty l).can b o n↔(if b=h.nx then o+n≤l.length else h.can b o n):=by
 by_cases e:b=h.nx
 · subst e;rw [if_pos rfl];constructor
   · rintro⟨lo,hi,dY,c,h1,h2,h3⟩;have ma:(h.ob.set h.nx (some (.cells 0 l.length ty true (nR .e 0 l)))).get h.nx=some (.cells lo hi dY true c):=h1;rw [NT.fR,if_pos rfl]at ma;cases ma;exact h3
   · exact fun hn=>AH.acZ h ty l hn
 · rw [if_neg e];constructor
   · rintro⟨lo,hi,dY,c,h1,h2,h3⟩;have ma:(h.ob.set h.nx (some (.cells 0 l.length ty true (nR .e 0 l)))).get b=some (.cells lo hi dY true c):=h1;rw [NT.fR,if_neg e]at ma;exact⟨lo,hi,dY,c,ma,h2,h3⟩
   · exact fun H=>AH.axO ty l H e
theorem AH.adp (h:AH)(b o:Nat)(l:ZZE)(b' o' n':Nat):(h.wr b o l).can b' o' n'↔h.can b' o' n':=by
 refine⟨fun H=>?_,AH.T6⟩
 by_cases e:b'=b
 · subst e;obtain⟨lo,hi,ty,c,h1,h2,h3⟩:=H;unfold AH.wr at h1;split at h1
   · rename_i CF fx dY tu c' heq;have ma:(h.ob.set b' (some (.cells CF fx dY tu (nR c' o l)))).get b'=some (.cells lo hi ty true c):=h1;rw [NT.fR,if_pos rfl]at ma;cases ma;exact⟨lo,hi,ty,c',heq,h2,h3⟩
   · exact⟨lo,hi,ty,c,h1,h2,h3⟩
 · obtain⟨lo,hi,ty,c,h1,h2,h3⟩:=H;rw [AH.CD h e]at h1;exact⟨lo,hi,ty,c,h1,h2,h3⟩
theorem AH.adq {h:AH}{b o:Nat}{l:ZZE}(H:h.can b o l.length)(b' o':Nat):(h.wr b o l).rd b' o'=if b'=b∧o≤o'∧o'<o+l.length then l[o'-o]? else h.rd b' o':=AH.CE H (zad _) b' o'
section
variable {h:AH}{R:Value→AH→Prop}
theorem adr {b o s}:WP .aB [.pointer (some ⟨b,o,s⟩)] h R↔∃v,h.rd b o=some v∧R v h:=by
 constructor
 · intro H;have e:yw h b o (fun v=>decide (R v h))=true:=H (fun v h=>decide (R v h)) fun _ _ hr=>zac hr
   obtain⟨lo,hi,ty,rw,c,v,h1,h2,h3,h4,h5⟩:=S9 e;refine⟨v,?_,zao h5⟩;unfold AH.rd;rw [h1];show(if lo≤o∧o+1≤hi then c.get o else none)=some v;rw [if_pos ⟨h2,h3⟩,h4]
 · rintro⟨v,h1,h2⟩;exact(Uf h1).2 h2
theorem sn {b o n:Nat}{s:Option Nat}(h0:0<n):WP (.bZ n) [.pointer (some ⟨b,o,s⟩)] h R↔∃l,h.xi b o n=some l∧R (.agg ⟨l⟩) h:=by
 constructor
 · intro H;have e:pL h b o n (fun l=>decide (R (.agg ⟨l⟩) h))=true:=H (fun v h=>decide (R v h)) fun _ _ hr=>zac hr
   obtain⟨lo,hi,ty,rw,c,l,h1,h2,h3,h4,h5,h6⟩:=B7 e;refine⟨l,AH.amg h4 fun i v hv=>?_,zao h6⟩;have fx:i<n:=by have:=(List.getElem?_eq_some_iff.1 hv).1;omega
   unfold AH.rd;rw [h1];show(if lo≤o+i∧o+i+1≤hi then c.get (o+i)else none)=some v;rw [if_pos ⟨by omega,by omega⟩,h5 i v hv]
 · rintro⟨l,h1,h2⟩;obtain⟨h3,h4⟩:=AH.amf h1;exact(Ug h4 h3 h0).2 h2
theorem ads {b o n s v}:WP (.store n) [.pointer (some ⟨b,o,s⟩),v] h R↔(cellsOf v).length=n∧fi (cellsOf v)=true∧h.can b o n∧R undef (h.wr b o (cellsOf v)):=by
 constructor
 · intro H;have e:iff (mA (cellsOf v) n) (xd h b o (cellsOf v) fun h=>decide (R undef h))=true:=H (fun v h=>decide (R v h)) fun _ _ hr=>zac hr
   obtain⟨h1,h2⟩:=dX e;rw [CG,zap]at h1
   have hc:h.can b o (cellsOf v).length∧fi (cellsOf v)=true:=by
    obtain⟨lo,hi,ty,rw,c,g1,g2⟩:=AM (show rf h b _=true from h2);obtain⟨g3,g4⟩:=dX g2;simp only [zae]at g3;obtain⟨⟨⟨r1,r2⟩,r3⟩,r4⟩:=g3;subst r1;exact⟨⟨lo,hi,ty,c,g1,zaa r2,zaa r3⟩,r4⟩
   rw [Uc hc.1 hc.2]at h2;exact⟨h1,hc.2,h1▸hc.1,zao h2⟩
 · rintro⟨h1,h2,h3,h4⟩;exact(Uh h3 h1 h2).2 h4
theorem tM {l i}:WP (.extract i) [.tuple ⟨l⟩] h R↔∃v,l[i]? =some v∧R v h:=by
 constructor
 · intro H;have e:vT l i (fun v=>decide (R v h))=true:=H (fun v h=>decide (R v h)) fun _ _ hr=>zac hr
   cases hv:l[i]? with
   | some v=>rw [Ui hv]at e;exact⟨v,rfl,zao e⟩
   | none=>
    exfalso
    clear H
    induction l generalizing i with
    | nil=>cases e
    | cons x l ih=>cases i with
     | zero=>simp at hv
     | succ i=>exact ih (show vT l i _=true from e) (by simpa using hv)
 · rintro⟨v,h1,h2⟩;exact(fk h1).2 h2
theorem adt {l i}:WP (.abf i) [.agg ⟨l⟩] h R↔∃v,l[i]? =some v∧R v h:=
 (show WP (.abf i) [.agg ⟨l⟩] h R↔WP (.extract i) [.tuple ⟨l⟩] h R from Iff.rfl).trans tM
end
theorem adu (k:IntKind)(n:Int):iA (.int k n)=true:=rfl
theorem adv (b:Bool):iA (.bool b)=true:=rfl
theorem adw (s:ByteArray):iA (.string s)=true:=rfl
theorem adx (a:Option Addr):iA (.pointer a)=true:=rfl
theorem ady (a:Option Addr)(n c:Nat):iA (.slice a n c)=true:=rfl
theorem adz (a:Option Nat):iA (.map a)=true:=rfl
theorem adA (f:Fn)(a b:Array Z):iA (.func f a b)=true:=rfl
theorem sr (l:ZZE):cellsOf (.agg ⟨l⟩)=l:=rfl
theorem su (k:IntKind)(n:Int):cellsOf (.int k n)=[.int k n]:=rfl
theorem sv (b:Bool):cellsOf (.bool b)=[.bool b]:=rfl
theorem sw (s:ByteArray):cellsOf (.string s)=[.string s]:=rfl
theorem adB (a:Option Addr):cellsOf (.pointer a)=[.pointer a]:=rfl
theorem adC (a:Option Addr)(n c:Nat):cellsOf (.slice a n c)=[.slice a n c]:=rfl
theorem adD (a:Option Nat):cellsOf (.map a)=[.map a]:=rfl
theorem adE (f:Fn)(a b:Array Z):cellsOf (.func f a b)=[.func f a b]:=rfl
theorem mE {v}(h:iA v=true):cellsOf v=[v]:=by
 cases v<;>first | rfl | cases h
theorem adF:fi []=true:=rfl
theorem AW (v:Z)(l:ZZE):fi (v::l)=(iA v&&fi l):=by
 show(bif iA v then fi l else false)=_;cases iA v<;>rfl
def qu (l:ZZE) (o:Nat) (m:ZZE):ZZE:=l.take o++m++l.drop (o+m.length)
def qv:ZZE→List (Nat×Nat)→ZZE→Option (ZZE) | l,[],[]=>some l | l,(o,n)::ps,v::vs=>if (cellsOf v).length=n∧o+n≤l.length then qv (qu l o (cellsOf v)) ps vs else none | _,_,_=>none
theorem amh:∀ {l m}(_:m.length≤l.length) (k:ZZE→Bool),re l m k=k (m++l.drop m.length)
 | [],[],_,k=>rfl
 | [],v::m,h,k=>by simp at h
 | x::l,[],h,k=>rfl
 | x::l,v::m,h,k=>by
  show re l m (fun l'=>k (v::l'))=_;rw [amh (by simpa using h)];simp
theorem adG:∀ {l o m}(_:o+m.length≤l.length) (k:ZZE→Bool),vG l o m k=k (qu l o m)
 | [],0,[],h,k=>rfl
 | [],0,v::m,h,k=>by simp at h
 | [],o+1,m,h,k=>by simp at h
 | x::l,0,m,h,k=>by
  show re (x::l) m k=_;rw [amh (by omega)];unfold qu;rw [List.take_zero,zaU,zav]
 | x::l,o+1,m,h,k=>by
  show vG l o m (fun l'=>k (x::l'))=_;rw [adG (by simp at h;omega)];unfold qu;rw [show o+1+m.length=(o+m.length)+1 by omega];rfl
theorem adH:∀ {ps l vs m}(_:qv l ps vs=some m) (k:ZZE→Bool),nL l ps vs k=k m
 | [],l,[],m,e,k=>by cases e;rfl
 | [],l,v::vs,m,e,k=>by cases e
 | (o,n)::ps,l,[],m,e,k=>by cases e
 | (o,n)::ps,l,v::vs,m,e,k=>by
  unfold qv at e;split at e
  · rename_i hc;show(bif mA (cellsOf v) n then vG l o (cellsOf v) fun l'=>nL l' ps vs k else false)=_;rw [CG,zac hc.1];simp only [zam];rw [adG (by rw [hc.1];exact hc.2),adH e]
  · cases e
def tN:List Nat→ZZE→Bool | [],[]=>true | n::ns,v::vs=>decide ((cellsOf v).length=n)&&tN ns vs | _,_=>false
theorem ami:∀ {ss vs},tN ss vs=true→ss=vs.map fun v=>(cellsOf v).length
 | [],[],_=>rfl
 | n::ns,v::vs,e=>by
  unfold tN at e;rw [zae,zap]at e;rw [zaW,ami e.2,e.1]
 | [],_::_,e=>by cases e
 | _::_,[],e=>by cases e
section
variable {h:AH}{R:Value→AH→Prop}
theorem Uq {ss vs}(hs:tN ss vs=true):WP (.x8 ss) vs h R↔R (.agg ⟨vs.flatMap cellsOf⟩) h:=ax1 (ami hs)
theorem CJ {zero l ps vs}(hf:qv zero ps vs=some l):WP (.build zero ps) vs h R↔R (.agg ⟨l⟩) h:=aya (adH hf)
theorem ayp {ty n cells l ps vs}(hf:qv cells ps vs=some l)(ha:fi l=true):WP (.buildSlice ty n cells ps) vs h R↔R (gD h.nx 0 n n) (h.new ty l):=ayb (adH hf) ha
end
theorem adI:∀ {l m k},re l m k=true→m.length≤l.length
 | [],[],k,_=>zad _
 | [],v::m,k,h=>by cases h
 | x::l,[],k,_=>zaz _
 | x::l,v::m,k,h=>by
  have:=adI (show re l m (fun l'=>k (v::l'))=true from h);simpa using this
theorem amj:∀ {l o m k},vG l o m k=true→o+m.length≤l.length
 | [],0,m,k,h=>by have:=adI (show re [] m k=true from h);simpa using this
 | [],o+1,m,k,h=>by cases h
 | x::l,0,m,k,h=>by have:=adI (show re (x::l) m k=true from h);omega
 | x::l,o+1,m,k,h=>by
  have:=amj (show vG l o m (fun l'=>k (x::l'))=true from h);simp only [zaE];omega
theorem amk:∀ {ps l vs k},nL l ps vs k=true→∃m,qv l ps vs=some m∧k m=true
 | [],l,[],k,h=>⟨l,rfl,h⟩
 | [],l,v::vs,k,h=>by cases h
 | (o,n)::ps,l,[],k,h=>by cases h
 | (o,n)::ps,l,v::vs,k,h=>by
  have h':(bif mA (cellsOf v) n then vG l o (cellsOf v) fun l'=>nL l' ps vs k else false)=true:=h;cases hl:mA (cellsOf v) n with
  | false=>rw [hl]at h';cases h'
  | true=>
   rw [hl]at h';have h2:vG l o (cellsOf v) (fun l'=>nL l' ps vs k)=true:=h';rw [CG,zap]at hl;have h3:=amj h2;rw [adG h3]at h2;obtain⟨m,h4,h5⟩:=amk h2;refine⟨m,?_,h5⟩;unfold qv;rw [if_pos ⟨hl,by rw [←hl];exact h3⟩];exact h4
section
variable {h:AH}{R:Value→AH→Prop}
theorem adJ {zero ps vs}:WP (.build zero ps) vs h R↔∃l,qv zero ps vs=some l∧R (.agg ⟨l⟩) h:=by
 constructor
 · intro H;obtain⟨m,h1,h2⟩:=amk (show nL zero ps vs (fun l=>decide (R (.agg ⟨l⟩) h))=true from H (fun v h=>decide (R v h)) fun _ _ hr=>zac hr);exact⟨m,h1,zao h2⟩
 · rintro⟨l,h1,h2⟩;exact(CJ h1).2 h2
end
theorem adK {sz}:∀{l:List (ZZE)}{i:Nat}{x:ZZE},(∀x∈l,x.length=sz)→l[i]? =some x→∀j v,x[j]? =some v→l.flatten[i*sz+j]? =some v
 | [],i,x,_,e,j,v,hv=>by simp at e
 | y::l,0,x,hs,e,j,v,hv=>by
  simp at e;subst e;have:j<y.length:=(List.getElem?_eq_some_iff.1 hv).1;simp [zaC this,hv]
 | y::l,i+1,x,hs,e,j,v,hv=>by
  have h1:=hs y zai;have:=adK (fun x hx=>hs x (zaj _ hx)) (show l[i]? =some x by simpa using e) j v hv;rw [zaN,zaB (by rw [h1,zaR];omega),h1];rw [show(i+1)*sz+j-sz=i*sz+j by rw [zaR];omega];exact this
end
end Go.Ve
