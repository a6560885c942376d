/- Part 4: VEval, part 5: each operation of the evaluator stands for the machine's own, first half. No condition. -/
import Derived.Test.YteeibihhdldjfaaGreatDoorVeC
import Derived.IntWalk
import Derived.Laws.StructEq
import Derived.Laws.RangeString
import Derived.WideLaws
set_option linter.unusedVariables false
set_option linter.unusedSimpArgs false
namespace Go.Ve
open Go.RowKit
def PR (P:Program) (w0:World) (φ:aO) (h:AH) (r:Result Next) (Q:Value→AH→Prop):Prop :=
 ∃v' w' v h' φ',(r= .ok (.value v') w'∨(r= .ok .skip w'∧v'=undef))∧Q v h'∧Ext h.nx φ φ'∧h.nx≤h'.nx∧VR φ' v v'∧HR P w0 φ' h' w'
section
variable {P:Program}{w0 w:World}{φ:aO}{h:AH}{ρ:Operand→Value}{o:Oper}{vs:List Value}{k:KV}
theorem PR.same {r:Result Next}{Q:Value→AH→Prop}(H:HR P w0 φ h w){v v':Value}(hr:r= .ok (.value v') w) (hv:VR φ v v') (hq:Q v h):PR P w0 φ h r Q :=
 ⟨v',w,v,h,φ,.inl hr,hq,Ext.refl _ _,Nat.le_refl _,hv,H⟩
theorem kD {t:TypeId}{i:TypeInfo}(hi:P.info? t=some i) (w:World):(sizeOf t).run P w= .ok i.size w:=by simp [sizeOf,typeInfo,hi]
theorem sx {t:TypeId}{i:TypeInfo}{z:Value}(hi:P.info? t=some i) (hz:i.zero=some z) (w:World):(zeroValue t).run P w= .ok z w:=by simp [zeroValue,typeInfo,hi,hz]
theorem uD {t:TypeId}{d:TypeDesc}(hu:P.underlying t=some d) (w:World):(isAgg t).run P w= .ok (nO d) w:=by
 cases d<;>simp [isAgg,run_underlying hu,nO]
theorem mP {t:TypeId}{s:Nat}(h:fo P t=some s):∃i,P.info? t=some i∧i.size=s:=by
 unfold fo at h
 cases hi:P.info? t with
 | none=>simp [hi]at h
 | some i=>exact⟨i,rfl,by simpa [hi]using h⟩
theorem pX {t:TypeId}{z:Value}(h:zeroOf P t=some z):∃i,P.info? t=some i∧i.zero=some z∧BJ z=true:=by
 unfold zeroOf at h
 split at h
 · rename_i i hi
   split at h
   · rename_i z' hz
     split at h
     · cases h;exact⟨i,hi,hz,by assumption⟩
     · cases h
   · cases h
 · cases h
theorem adG {v:Value}(h:Lp v=true):VR φ v v:=by
 unfold Lp at h
 split at h<;>first
  | (constructor;done)
  | (simp only [Bool.and_eq_true,beq_iff_eq]at h;obtain⟨rfl,rfl⟩:=h;exact .oe)
  | cases h
theorem LR.adH:∀{l:List Value},(∀v∈l,VR φ v v)→LR φ l l
 | [],_=>.nil
 | v::l,h=>.cons v v l l (h v (by simp)) (LR.adH fun u hu=>h u (by simp [hu]))
theorem qX {v:Value}(h:BJ v=true):VR φ v v:=by
 unfold BJ at h
 split at h
 · exact .agg _ _ (LR.adH fun u hu=>adG (List.all_eq_true.1 h u hu))
 · rename_i f a b
   simp only [Bool.and_eq_true,Array.isEmpty_iff]at h
   obtain⟨rfl,rfl⟩:=h
   exact .func _ _ _ _ _ _ (.func f) .nil .nil
 · exact adG h
theorem adI (n:Int) (h1: -9223372036854775808≤n) (h2:n≤9223372036854775807):n=IntKind.i64.wrap n:=by rw [IntKind.wrap_i64];omega
theorem adJ {a:Nat}(h:Nat.ble a uF=true):a≤9223372036854775807:=Nat.le_of_ble_eq_true h
theorem adK {α:Type}{c:Bool}{a b x:α}(h1:c=true→a=x) (h2:c=false→b=x):(bif c then a else b)=x:=by
 cases c
 · exact h2 rfl
 · exact h1 rfl
theorem Cr (k:IntKind) (n:Int):bD k n=k.wrap n:=by
 cases k
 case i64 =>
  cases n with
  | ofNat a =>
   exact adK (c:=Nat.ble a uF) (fun hb=>by
    have h1:=adJ hb
    exact adI _ (by simp only [Int.ofNat_eq_natCast];omega) (by simp only [Int.ofNat_eq_natCast];omega)) (fun _=>rfl)
  | negSucc a =>
   exact adK (c:=Nat.ble a uF) (fun hb=>by
    have h1:=adJ hb
    exact adI _ (by omega) (by omega)) (fun _=>rfl)
 all_goals rfl
theorem ur (a b:Int):mT a b=(a==b):=by
 cases a<;>cases b<;>simp only [mT]
 · rename_i a b
   by_cases e:a=b
   · subst e;simp
   · rw [gg e];symm;simp;omega
 · rfl
 · rfl
 · rename_i a b
   by_cases e:a=b
   · subst e;simp
   · rw [gg e];symm;simp;exact e
theorem wg (a b:Nat):Nat.ble a b=decide (a≤b):=by
 cases h:Nat.ble a b with
 | true=>simp [Nat.le_of_ble_eq_true h]
 | false=>symm;simp only [decide_eq_false_iff_not];exact fun hle=>by rw [Nat.ble_eq_true_of_le hle]at h;cases h
theorem BH (a b:Int):oq a b=decide (a<b):=by
 cases a<;>cases b<;>simp only [oq,wg]
 · rename_i a b
   rw [decide_eq_decide];simp only [Int.ofNat_eq_natCast];omega
 · symm;simp only [decide_eq_false_iff_not,Int.ofNat_eq_natCast];omega
 · symm;simp only [decide_eq_true_eq,Int.ofNat_eq_natCast];omega
 · rename_i a b
   rw [decide_eq_decide];omega
theorem dle (a b:Int):decide (a≤b)= !decide (b<a):=by by_cases h:b<a<;>simp [h]<;>omega
theorem o5 {a b:IntKind}(h:gK a b=true):a=b:=by cases a<;>cases b<;>first | rfl | cases h
theorem Tz:∀(l m:List UInt8),lE l m=(l==m)
 | [],[]=>rfl
 | [],_::_=>rfl
 | _::_,[]=>rfl
 | a::l,b::m=>by
  simp only [lE,List.cons_beq_cons]
  by_cases e:a=b
  · subst e;simp [Tz l m]
  · rw [gg (fun h=>e (UInt8.toNat_inj.1 h))];symm;simp [e]
theorem eqStr (a b:ByteArray):lE a.data.toList b.data.toList=(a.toList==b.toList):=by
 rw [Tz,ByteArray.toList_eq,ByteArray.toList_eq]
theorem aay {x:Operand}(ho:o.op= .move x∨o.op= .assign x) (H:HR P w0 φ h w) (hv:LR φ vs ([x].map ρ)) (e:SU vs h k=true):PR P w0 φ h ((execOp ρ o).run P w) fun v h'=>k v h'=true:=by
 obtain⟨a,ar,e'⟩:=fy e;clear e;subst ar;have e:=e';clear e'
 obtain⟨a',ha,hr⟩:=hv.one
 simp at ha;subst ha
 rcases ho with ho | ho<;>exact .same H (by simp [execOp,ho]) hr e
theorem ajL {c a b:Operand}(ho:o.op= .pick c a b) (H:HR P w0 φ h w) (hv:LR φ vs ([c,a,b].map ρ)) (e:SV vs h k=true):PR P w0 φ h ((execOp ρ o).run P w) fun v h'=>k v h'=true:=by
 obtain⟨vc,va,vb,ar,e'⟩:=aal e;clear e;subst ar;have e:=e';clear e'
 obtain⟨t,ar,e'⟩:=E4 e;clear e;subst ar;have e:=e';clear e'
 obtain⟨c',a',b',hx,hc,ha,hb⟩:=hv.three
 simp at hx
 obtain⟨h1,h2,h3⟩:=hx
 subst h1 h2 h3
 have hC:ρ c= .bool t:=by generalize ρ c=C at hc;cases hc;rfl
 cases t with
 | true=>exact .same H (by simp [execOp,ho,asBool,hC]) ha e
 | false=>exact .same H (by simp [execOp,ho,asBool,hC]) hb e
theorem PR.newRow (H:HR P w0 φ h w){ty:TypeId}{l l':List Value}(hl:LR φ l l'){c:NT Value}{bj:NT AO}(hc:∀j v,l[j]? =some v→c.get j=some v)
 (cM:h.ob.ko h.nx (some (.cells 0 l.length ty true c)) bj) :
 HR P w0 (φ.put h.nx (.live w.heap.size 0 l'.length)) ⟨h.nx+1,bj⟩ (w.alloc (.cells l'.toArray ty))∧Ext h.nx φ (φ.put h.nx (.live w.heap.size 0 l'.length)):=by
 refine H.newAt (H.fresh _ (Nat.le_refl _)) cM.1 (fun g hg _=>cM.2 g hg) (fun g hg=>H.fresh g (by simp only at hg;omega)) (fun g hg=>by rw [cM.2 g (by simp only at hg;omega)];exact H.top g (by simp only at hg;omega)) (by simp) _ (Nat.le_refl _) ?_
 refine .cells _ _ _ _ _ _ _ _ _ (fun _=>rfl) (Nat.le_refl _) (by simp) fun p _ hp=> ?_
 obtain⟨u,hu,hr⟩:=LR.get hl p _ (List.getElem?_eq_getElem hp)
 exact⟨l[p],u,hc p _ (List.getElem?_eq_getElem hp),by simpa using hu,hr⟩
theorem PR.BN {φ:aO}{f B n:Nat}:VR (φ.put f (.live B 0 n)) (au f 0) (.pointer (some ⟨B,0,none⟩)):=by
 refine .ptr _ _ (by simp [aO.put]) fun b d n h=> ?_
 simp only [aO.jG]at h
 cases h
 exact⟨rfl,rfl,rfl⟩
theorem PR.adL {r:Result Next}(H:HR P w0 φ h w){ty:TypeId}{l l':List Value}(hl:LR φ l l'){k:KV}(e:lV h ty l (fun b h=>k (au b 0) h)=true)
 (hr:r= .ok (.value (.pointer (some ⟨w.heap.size,0,none⟩))) (w.alloc (.cells l'.toArray ty))):PR P w0 φ h r fun v h'=>k v h'=true:=by
 obtain⟨qW,c,bj,h1,h2,h3⟩:=uo e
 obtain⟨g1,g2⟩:=PR.newRow H hl h1 h2
 exact⟨_,_,_,_,_,.inl hr,h3,g2,by simp,PR.BN,g1⟩
theorem ajM {ty:TypeId}{z:Value}(ho:o.op= .alloc ty) (hz:zeroOf P ty=some z) (H:HR P w0 φ h w) (e:abl ty z.cells.toList vs h k=true):PR P w0 φ h ((execOp ρ o).run P w) fun v h'=>k v h'=true:=by
 obtain⟨i,hi,hz,gB⟩:=pX hz
 obtain⟨ar,e'⟩:=wj e;clear e;subst ar;have e:=e';clear e'
 refine PR.adL H (VR.cells (qX gB)) e ?_
 simp [execOp,ho,Instr.alloc,sx hi hz,newVar,newRow,World.alloc_eq]
theorem ajN {ty:TypeId}{x:Operand}(ho:o.op= .box ty x) (H:HR P w0 φ h w) (hv:LR φ vs ([x].map ρ)) (e:abm ty vs h k=true):PR P w0 φ h ((execOp ρ o).run P w) fun v h'=>k v h'=true:=by
 obtain⟨a,ar,e'⟩:=fy e;clear e;subst ar;have e:=e';clear e'
 obtain⟨a',ha,hr⟩:=hv.one
 simp at ha;subst ha
 rw [BO]at e
 refine PR.adL H (VR.cells hr) e ?_
 simp [execOp,ho,Instr.box,newVar,newRow,World.alloc_eq]
theorem VR.lB {a:Addr}{v':Value}(h:VR φ (.pointer (some a)) v'):∃a',v'= .pointer (some a')∧φ a.block≠none∧AtR φ a a':=by
 cases h with | ptr _ a' h1 h2=>exact⟨a',rfl,h1,h2⟩
theorem VR.pW {a:Addr}{l c:Nat}{v':Value}(h:VR φ (.slice (some a) l c) v'):∃a' c',v'= .slice (some a') l c'∧φ a.block≠none∧ui φ a a' l c c':=by
 cases h with | sl _ a' _ _ c' h1 h2=>exact⟨a',c',rfl,h1,h2⟩
theorem VR.sw {l c:Nat}{v':Value}(h:VR φ (.slice none l c) v'):l=0∧c=0∧v'= .slice none 0 0:=by
 cases h;exact⟨rfl,rfl,rfl⟩
theorem VR.iZ {kd:IntKind}{n:Int}{v':Value}(h:VR φ (.int kd n) v'):v'= .int kd n:=by cases h;rfl
theorem VR.sv {b:Bool}{v':Value}(h:VR φ (.bool b) v'):v'= .bool b:=by cases h;rfl
theorem VR.kV {s:ByteArray}{v':Value}(h:VR φ (.string s) v'):v'= .string s:=by cases h;rfl
theorem VR.zy {a:Array Value}{v':Value}(h:VR φ (.agg a) v'):∃a',v'= .agg a'∧LR φ a.toList a'.toList:=by
 cases h with | agg _ a' h=>exact⟨a',rfl,h⟩
theorem VR.acZ {a:Array Value}{v':Value}(h:VR φ (.tuple a) v'):∃a',v'= .tuple a'∧LR φ a.toList a'.toList:=by
 cases h with | iy _ a' h=>exact⟨a',rfl,h⟩
theorem VR.Kr {r:Nat}{v':Value}(h:VR φ (.map (some r)) v'):∃r',v'= .map (some r')∧φ r≠none∧∀b d n,φ r=some (.live b d n)→r'=b:=by
 cases h with | map _ r' h1 h2=>exact⟨r',rfl,h1,h2⟩
theorem VR.RT {v':Value}(h:VR φ (.map none) v'):v'= .map none:=by cases h;rfl
theorem ajP {t:TypeId}{d:TypeDesc}{x:Operand}(ho:o.op= .load t x) (hu:P.underlying t=some d) (hd:nO d=false) (H:HR P w0 φ h w) (hv:LR φ vs ([x].map ρ)) (e:SW vs h k=true):PR P w0 φ h ((execOp ρ o).run P w) fun v h'=>k v h'=true:=by
 obtain⟨p,ar,e'⟩:=fy e;clear e;subst ar;have e:=e';clear e'
 obtain⟨p',hp,hr⟩:=hv.one
 simp at hp;subst hp
 obtain⟨a,ar,e'⟩:=mO e;clear e;subst ar;have e:=e';clear e'
 obtain⟨a',ha,hs,dH⟩:=hr.lB
 obtain⟨lo,hi,ty,rw,c,v,h1,h2,h3,h4,h5⟩:=KL e
 obtain⟨v',hc,E5⟩:=H.cell hs dH h1 (j:=0) (by omega) (by omega) (by simpa using h4)
 refine .same H ?_ E5 h5
 have:a'.add 0=a':=rfl
 rw [this]at hc
 simp [execOp,ho,ha,Instr.loadAt,Instr.sureAddr,loadVar,uD hu,hd,hc]
theorem ajO {t:TypeId}{d:TypeDesc}{n:Nat}{x:Operand}(ho:o.op= .load t x) (hu:P.underlying t=some d) (hd:nO d=true) (hz:fo P t=some n) (H:HR P w0 φ h w) (hv:LR φ vs ([x].map ρ)) (e:SY n vs h k=true):PR P w0 φ h ((execOp ρ o).run P w) fun v h'=>k v h'=true:=by
 obtain⟨i,hi,rfl⟩:=mP hz
 obtain⟨p,ar,e'⟩:=fy e;clear e;subst ar;have e:=e';clear e'
 obtain⟨p',hp,hr⟩:=hv.one
 simp at hp;subst hp
 obtain⟨a,ar,e'⟩:=mO e;clear e;subst ar;have e:=e';clear e'
 obtain⟨a',ha,hs,dH⟩:=hr.lB
 obtain⟨lo,KK,ty,rw,c,l,h1,h2,h3,h4,h5,h6⟩:=wh e
 obtain⟨l',hl,cD⟩:=H.cells hs dH h1 h2 (by omega) h5
 refine .same H ?_ (.agg ⟨l⟩ l'.toArray (by simpa using hl)) h6
 rw [h4]at cD
 simp [execOp,ho,ha,Instr.loadAt,Instr.sureAddr,loadVar,uD hu,hd,kD hi,cD w rfl]
theorem ajQ {t:TypeId}{n:Nat}{x y:Operand}(ho:o.op= .store t x y) (hz:fo P t=some n) (H:HR P w0 φ h w) (hv:LR φ vs ([x,y].map ρ)) (e:abp n vs h k=true):PR P w0 φ h ((execOp ρ o).run P w) fun v h'=>k v h'=true:=by
 obtain⟨i,hi,rfl⟩:=mP hz
 obtain⟨p,v,ar,e'⟩:=ji e;clear e;subst ar;have e:=e';clear e'
 obtain⟨p',v',hp,hr,E5⟩:=hv.two
 simp at hp;obtain⟨e1,e2⟩:=hp;subst e1 e2
 obtain⟨a,ar,e'⟩:=mO e;clear e;subst ar;have e:=e';clear e'
 obtain⟨a',ha,hs,dH⟩:=hr.lB
 obtain⟨hle,e⟩:=cI e
 have hle:=Kx _ hle
 rw [BO]at hle e
 obtain⟨lo,KK,ty,c,c',bj,g1,g2,g3,g4,g5,g6,g7,g8⟩:=RP e
 have lC:=VR.cells E5
 obtain⟨w',cD,HH,_⟩:=H.write hs dH g1 g2 g3 lC g4 g5 g6 g7
 refine⟨undef,w',undef,_,φ,.inr ⟨?_,rfl⟩,g8,Ext.refl _ _,Nat.le_refl _,VR.undef _,HH⟩
 have fQ:(ρ y).cells.size=i.size:=by rw [←hle,LR.length lC];simp
 simp [execOp,ho,ha,Instr.storeAt,Instr.sureAddr,storeVar,kD hi,fQ,cD]
theorem ajR {x:Operand}(ho:o.op= .nilCheck x) (H:HR P w0 φ h w) (hv:LR φ vs ([x].map ρ)) (e:SZ vs h k=true):PR P w0 φ h ((execOp ρ o).run P w) fun v h'=>k v h'=true:=by
 obtain⟨a,ar,e'⟩:=fy e;clear e;subst ar;have e:=e';clear e'
 obtain⟨a',ha,hr⟩:=hv.one
 simp at ha;subst ha
 obtain⟨h1,h2⟩:=cI e
 refine .same H ?_ hr h2
 generalize hA:ρ x=A at hr
 simp only [execOp,ho,hA]
 cases hr with
 | func fn uj first lA cr kS hf _ _ =>
  cases hf with
  | func f=>rfl
  | method s=>simp [Fg]at h1
  | yield l l' _ _=>rfl
 | Kn=>simp [Fg]at h1
 | RJ=>simp [Fg]at h1
 | BG=>simp [Fg]at h1
 | _=>rfl
theorem ajS {s:TypeId}{x:Operand}{f:Nat}{fs:Array Field}{fl:Field}{sz:Nat}(ho:o.op= .fieldAddr s x f) (hu:P.underlying s=some (.struct fs)) (hf:fs[f]? =some fl) (hz:fo P fl.type=some sz) (fQ:sz≠0)
 (H:HR P w0 φ h w) (hv:LR φ vs ([x].map ρ)) (e:S6 fl.offset vs h k=true):PR P w0 φ h ((execOp ρ o).run P w) fun v h'=>k v h'=true:=by
 obtain⟨i,hi,rfl⟩:=mP hz
 obtain⟨p,ar,e'⟩:=fy e;clear e;subst ar;have e:=e';clear e'
 obtain⟨p',hp,hr⟩:=hv.one
 simp at hp;subst hp
 obtain⟨a,ar,e'⟩:=mO e;clear e;subst ar;have e:=e';clear e'
 rw [cz]at e
 obtain⟨a',ha,hs,dH⟩:=hr.lB
 refine .same H (v':=.pointer (some (a'.add fl.offset))) ?_ (.ptr ⟨a.block,a.off+fl.offset,none⟩ _ hs fun b d n hl=> ?_) e
 · simp [execOp,ho,ha,Instr.fieldAt,Instr.sureAddr,run_underlying hu,hf,fieldPlace,kD hi,fQ]
 · obtain⟨e1,e2,e3⟩:=dH b d n hl
   rw [nR a' e3]
   exact⟨e1,by show a'.off+fl.offset+d=a.off+fl.offset;omega,rfl⟩
theorem ajU {s:TypeId}{x:Operand}{f:Nat}{fs:Array Field}{fl:Field}{d:TypeDesc}(ho:o.op= .field s x f) (hu:P.underlying s=some (.struct fs)) (hf:fs[f]? =some fl) (hd:P.underlying fl.type=some d) (ha:nO d=false)
 (H:HR P w0 φ h w) (hv:LR φ vs ([x].map ρ)) (e:S7 fl.offset vs h k=true):PR P w0 φ h ((execOp ρ o).run P w) fun v h'=>k v h'=true:=by
 obtain⟨p,ar,e'⟩:=fy e;clear e;subst ar;have e:=e';clear e'
 obtain⟨p',hp,hr⟩:=hv.one
 simp at hp;subst hp
 obtain⟨a,ar,e'⟩:=Ch e;clear e;subst ar;have e:=e';clear e'
 obtain⟨a',hx,hl⟩:=hr.zy
 obtain⟨v,h1,h2⟩:=FL _ e
 obtain⟨v',h3,h4⟩:=LR.get hl _ _ h1
 refine .same H ?_ h4 h2
 have EF:a'[fl.offset]? =some v':=by simpa using h3
 simp [execOp,ho,hx,Instr.field,run_underlying hu,hf,asAgg,part,uD hd,ha,EF]
theorem ajT {s:TypeId}{x:Operand}{f:Nat}{fs:Array Field}{fl:Field}{d:TypeDesc}{n:Nat}(ho:o.op= .field s x f) (hu:P.underlying s=some (.struct fs)) (hf:fs[f]? =some fl) (hd:P.underlying fl.type=some d) (ha:nO d=true) (hz:fo P fl.type=some n)
 (H:HR P w0 φ h w) (hv:LR φ vs ([x].map ρ)) (e:S8 fl.offset n vs h k=true):PR P w0 φ h ((execOp ρ o).run P w) fun v h'=>k v h'=true:=by
 obtain⟨i,hi,rfl⟩:=mP hz
 obtain⟨p,ar,e'⟩:=fy e;clear e;subst ar;have e:=e';clear e'
 obtain⟨p',hp,hr⟩:=hv.one
 simp at hp;subst hp
 obtain⟨a,ar,e'⟩:=Ch e;clear e;subst ar;have e:=e';clear e'
 obtain⟨a',hx,hl⟩:=hr.zy
 obtain⟨e,h1⟩:=LA _ e
 obtain⟨e,h2⟩:=Lz _ e
 refine .same H (v':=.agg (a'.extract fl.offset (fl.offset+i.size))) ?_ (.agg _ _ ?_) e
 · simp [execOp,ho,hx,Instr.field,run_underlying hu,hf,asAgg,part,uD hd,ha,kD hi]
 · have:=(hl.drop fl.offset).take i.size
   simpa [Array.toList_extract,List.extract_eq_drop_take']using this
theorem ajW {t e':TypeId}{x y:Operand}{n:Nat}(ho:o.op= .indexAddr t x y) (hu:P.underlying t=some (.slice e')) (hz:fo P e'=some n) (H:HR P w0 φ h w) (hv:LR φ vs ([x,y].map ρ)) (e:S9 n vs h k=true):PR P w0 φ h ((execOp ρ o).run P w) fun v h'=>k v h'=true:=by
 obtain⟨i,hi,rfl⟩:=mP hz
 obtain⟨p,q,ar,e'⟩:=ji e;clear e;subst ar;have e:=e';clear e'
 obtain⟨p',q',hp,hr,hq⟩:=hv.two
 simp at hp;obtain⟨e1,e2⟩:=hp;subst e1 e2
 obtain⟨kd,m,ar,e'⟩:=um e;clear e;subst ar;have e:=e';clear e'
 rcases qU e with⟨_,_,_,e'⟩ | ⟨a,l,c,ar,e'⟩
 · cases e'
 clear e;subst ar;have e:=e';clear e'
 obtain⟨bJ,e⟩:=cI e
 have bJ:=Nat.le_of_ble_eq_true bJ
 rw [cz]at e
 obtain⟨a',c',hx,hs,hc⟩:=hr.pW
 have dH:AtR φ a a':=by
  rcases hc with⟨h1,h2,uz,h3⟩ | ⟨sz,h1,h2,h3,h4⟩
  · exact h3 (by omega)
  · exact(h4 (by omega)).1
 have adM:m<l:=bJ
 refine .same H (v':=.pointer (some (a'.add (m*i.size)))) ?_ (.ptr ⟨a.block,a.off+m*i.size,none⟩ _ hs fun b d n hl=> ?_) e
 · simp only [execOp,ho,hx,hq.iZ]
   simp [Instr.indexAt,asIntOf,run_underlying hu,kD hi,adM]
 · obtain⟨e1,e2,e3⟩:=dH b d n hl
   rw [nR a' e3]
   exact⟨e1,by show a'.off+m*i.size+d=a.off+m*i.size;omega,rfl⟩
theorem ajV {t e':TypeId}{x y:Operand}{len n:Nat}(ho:o.op= .indexAddr t x y) (hu:P.underlying t=some (.array len e')) (hz:fo P e'=some n) (H:HR P w0 φ h w) (hv:LR φ vs ([x,y].map ρ)) (e:Ta len n vs h k=true):PR P w0 φ h ((execOp ρ o).run P w) fun v h'=>k v h'=true:=by
 obtain⟨i,hi,rfl⟩:=mP hz
 obtain⟨p,q,ar,e1⟩:=ji e;clear e;subst ar;have e:=e1;clear e1
 obtain⟨p',q',hp,hr,hq⟩:=hv.two
 simp at hp;obtain⟨e1,e2⟩:=hp;subst e1 e2
 obtain⟨kd,m,ar,e1⟩:=um e;clear e;subst ar;have e:=e1;clear e1
 obtain⟨a,ar,e1⟩:=mO e;clear e;subst ar;have e:=e1;clear e1
 obtain⟨bJ,e⟩:=cI e
 have bJ:m<len:=Nat.le_of_ble_eq_true bJ
 rw [cz]at e
 obtain⟨a',hx,hs,dH⟩:=hr.lB
 refine .same H (v':=.pointer (some (a'.add (m*i.size)))) ?_ (.ptr ⟨a.block,a.off+m*i.size,none⟩ _ hs fun b d n hl=> ?_) e
 · simp only [execOp,ho,hx,hq.iZ]
   simp [Instr.indexAt,Instr.sureAddr,asIntOf,run_underlying hu,kD hi,bJ]
 · obtain⟨e1,e2,e3⟩:=dH b d n hl
   rw [nR a' e3]
   exact⟨e1,by show a'.off+m*i.size+d=a.off+m*i.size;omega,rfl⟩
theorem ajY {t e':TypeId}{x y:Operand}{len:Nat}{d:TypeDesc}(ho:o.op= .index t x y) (hu:P.underlying t=some (.array len e')) (hd:P.underlying e'=some d) (ha:nO d=false) (hz:fo P e'=some 1) (H:HR P w0 φ h w) (hv:LR φ vs ([x,y].map ρ)) (e:Tb len vs h k=true):PR P w0 φ h ((execOp ρ o).run P w) fun v h'=>k v h'=true:=by
 obtain⟨i,hi,h1⟩:=mP hz
 obtain⟨p,q,ar,e1⟩:=ji e;clear e;subst ar;have e:=e1;clear e1
 obtain⟨p',q',hp,hr,hq⟩:=hv.two
 simp at hp;obtain⟨e1,e2⟩:=hp;subst e1 e2
 obtain⟨kd,m,ar,e1⟩:=um e;clear e;subst ar;have e:=e1;clear e1
 obtain⟨a,ar,e1⟩:=Ch e;clear e;subst ar;have e:=e1;clear e1
 obtain⟨bJ,e⟩:=cI e
 have bJ:m<len:=Nat.le_of_ble_eq_true bJ
 obtain⟨a',hx,hl⟩:=hr.zy
 obtain⟨v,g1,g2⟩:=FL _ e
 obtain⟨v',g3,g4⟩:=LR.get hl _ _ g1
 refine .same H ?_ g4 g2
 have F8:a'[m]? =some v':=by simpa using g3
 simp only [execOp,ho,hx,hq.iZ]
 simp [Instr.index,asIntOf,run_underlying hu,kD hi,h1,bJ,part,uD hd,ha,F8]
theorem ajX {t e':TypeId}{x y:Operand}{len n:Nat}{d:TypeDesc}(ho:o.op= .index t x y) (hu:P.underlying t=some (.array len e')) (hd:P.underlying e'=some d) (ha:nO d=true) (hz:fo P e'=some n) (H:HR P w0 φ h w) (hv:LR φ vs ([x,y].map ρ)) (e:Tc len n vs h k=true):PR P w0 φ h ((execOp ρ o).run P w) fun v h'=>k v h'=true:=by
 obtain⟨i,hi,rfl⟩:=mP hz
 obtain⟨p,q,ar,e1⟩:=ji e;clear e;subst ar;have e:=e1;clear e1
 obtain⟨p',q',hp,hr,hq⟩:=hv.two
 simp at hp;obtain⟨e1,e2⟩:=hp;subst e1 e2
 obtain⟨kd,m,ar,e1⟩:=um e;clear e;subst ar;have e:=e1;clear e1
 obtain⟨a,ar,e1⟩:=Ch e;clear e;subst ar;have e:=e1;clear e1
 obtain⟨bJ,e⟩:=cI e
 have bJ:m<len:=Nat.le_of_ble_eq_true bJ
 obtain⟨a',hx,hl⟩:=hr.zy
 obtain⟨e,_⟩:=LA _ e
 obtain⟨e,_⟩:=Lz _ e
 refine .same H (v':=.agg (a'.extract (m*i.size) (m*i.size+i.size))) ?_ (.agg _ _ ?_) e
 · simp only [execOp,ho,hx,hq.iZ]
   simp [Instr.index,asIntOf,run_underlying hu,kD hi,bJ,part,uD hd,ha]
 · have:=(hl.drop (m*i.size)).take i.size
   simpa [Array.toList_extract,List.extract_eq_drop_take']using this
theorem ajZ {t:TypeId}{x y:Operand}(ho:o.op= .index t x y) (hu:P.underlying t=some .string) (H:HR P w0 φ h w) (hv:LR φ vs ([x,y].map ρ)) (e:KY vs h k=true):PR P w0 φ h ((execOp ρ o).run P w) fun v h'=>k v h'=true:=by
 obtain⟨p,q,ar,e1⟩:=ji e;clear e;subst ar;have e:=e1;clear e1
 obtain⟨p',q',hp,hr,hq⟩:=hv.two
 simp at hp;obtain⟨e1,e2⟩:=hp;subst e1 e2
 obtain⟨kd,m,ar,e1⟩:=um e;clear e;subst ar;have e:=e1;clear e1
 obtain⟨s,ar,e1⟩:=mf e;clear e;subst ar;have e:=e1;clear e1
 split at e
 · rename_i c hc
   rw [cz]at e
   refine .same H ?_ (.int _ _) e
   have hs:s[m]? =some c:=by
    have h1:m<s.data.size:=by simpa using (List.getElem?_eq_some_iff.1 hc).1
    have h2:m<s.size:=h1
    rw [getElem?_pos s m h2]
    simp only [Option.some.injEq]
    have h3:s.data[m]'h1=c:=by simpa using (List.getElem?_eq_some_iff.1 hc).2
    exact h3
   simp only [execOp,ho,hr.kV,hq.iZ]
   simp [Instr.index,asIntOf,run_underlying hu,hs]
 · cases e
theorem aj3 {op:BinOp}{t u:TypeId}{x y:Operand}(ho:o.op= .binOp op t x y u) (H:HR P w0 φ h w) (hv:LR φ vs ([x,y].map ρ)) (e:KZ op vs h k=true):PR P w0 φ h ((execOp ρ o).run P w) fun v h'=>k v h'=true:=by
 obtain⟨p,q,ar,e1⟩:=ji e;clear e;subst ar;have e:=e1;clear e1
 obtain⟨p',q',hp,hr,hq⟩:=hv.two
 simp at hp;obtain⟨e1,e2⟩:=hp;subst e1 e2
 obtain⟨kx,a,ar,e1⟩:=og e;clear e;subst ar;have e:=e1;clear e1
 obtain⟨ky,b,ar,e1⟩:=og e;clear e;subst ar;have e:=e1;clear e1
 have hg:(eqGuard op t x y (.int kx a) (.int ky b)).run P w= .ok () w:=by
  unfold eqGuard
  split<;>simp
 have hx:=hr.iZ
 have hy:=hq.iZ
 have fin:∀{v:Value},VR φ v v→(binOp op t (.int kx a) (.int ky b)).run P w= .ok v w→k v h=true→PR P w0 φ h ((execOp ρ o).run P w) fun v h'=>k v h'=true :=
  fun Ku cD hk=>.same H (by simp only [execOp,ho,hx,hy];simp [hg,cD]) Ku hk
 cases op<;>simp only [SP]at e<;>first | (cases e;done) | skip
 case shr =>
  unfold SN at e
  split at e
  · rename_i x' y'
    cases hb:Nat.ble y' 64 with
    | false=>rw [hb]at e;cases e
    | true =>
     rw [hb]at e
     simp only [cond_true,cz]at e
     have hle:=Nat.le_of_ble_eq_true hb
     refine fin (.int _ _) ?_ e
     have hm:min y' 64=y':=by omega
     have h1:¬(Int.ofNat y'<0):=by simp only [Int.ofNat_eq_natCast];omega
     have hf:(Int.ofNat x').fdiv (2 ^ y')=Int.ofNat (Nat.shiftRight x' y'):=by
      show(x':Int).fdiv (2 ^ y')=((x' >>> y':Nat):Int)
      have h2:(2:Int) ^ y'=((2 ^ y':Nat):Int):=by simp
      rw [Nat.shiftRight_eq_div_pow,h2,Int.fdiv_eq_ediv_of_nonneg _ (Int.natCast_nonneg _),Int.natCast_ediv]
     have ht:(Int.ofNat y').toNat=y':=rfl
     simp only [binOp,Op.shift,IntKind.bits,h1,if_false,ht,hm,hf,Sem.run_pure]
  · cases e
 all_goals
  obtain⟨hk,e2⟩:=cI e
  clear e;have e:=e2;clear e2
  obtain rfl:=o5 hk
  simp only [SM]at e
 case add=>unfold aa6 at e;rw [ph,Cr]at e;exact fin (.int _ _) (by simp [binOp,Op.intArith]) e
 case sub=>unfold aa7 at e;rw [ph,Cr]at e;exact fin (.int _ _) (by simp [binOp,Op.intArith];rfl) e
 case mul=>unfold aa8 at e;rw [ph,Cr]at e;exact fin (.int _ _) (by simp [binOp,Op.intArith]) e
 case quo =>
  unfold aa9 at e
  rw [ur]at e
  cases hb:(b==Int.ofNat 0)with
  | true=>rw [hb]at e;cases e
  | false =>
   rw [hb]at e
   simp only [cond_false,ph,Cr]at e
   have dr:b≠0:=by intro h0;subst h0;simp at hb
   exact fin (.int _ _) (by simp [binOp,Op.intDiv,dr]) e
 case rem =>
  unfold aba at e
  rw [ur]at e
  cases hb:(b==Int.ofNat 0)with
  | true=>rw [hb]at e;cases e
  | false =>
   rw [hb]at e
   simp only [cond_false,ph]at e
   have dr:b≠0:=by intro h0;subst h0;simp at hb
   exact fin (.int _ _) (by simp [binOp,Op.intDiv,dr]) e
 case eql=>unfold abb at e;rw [jV,ur]at e;exact fin (.bool _) (by simp [binOp,Op.intCmp]) e
 case neq=>unfold abc at e;rw [jV,ur]at e;exact fin (.bool _) (by simp [binOp,Op.intCmp,bne]) e
 case lss=>unfold abd at e;rw [jV,BH]at e;exact fin (.bool _) (by simp [binOp,Op.intCmp]) e
 case leq=>unfold abe at e;rw [jV,BH]at e;exact fin (.bool _) (by simp [binOp,Op.intCmp,dle]) e
 case gtr=>unfold abf at e;rw [jV,BH]at e;exact fin (.bool _) (by simp [binOp,Op.intCmp]) e
 case geq=>unfold abg at e;rw [jV,BH]at e;exact fin (.bool _) (by simp [binOp,Op.intCmp,dle]) e
 case and=>
  unfold abh at e
  split at e
  · rename_i x' y'
    cases hb:(Nat.ble x' 18446744073709551615&&Nat.ble y' 18446744073709551615)with
    | false=>rw [hb]at e;cases e
    | true =>
     rw [hb]at e
     simp only [cond_true,cz]at e
     simp only [Bool.and_eq_true]at hb
     have KT:=Nat.le_of_ble_eq_true hb.1
     have kr:=Nat.le_of_ble_eq_true hb.2
     refine fin (.int _ _) ?_ e
     have h1:(BitVec.ofInt 64 (Int.ofNat x') &&& BitVec.ofInt 64 (Int.ofNat y')).toNat=Nat.land x' y':=by
      simp only [Int.ofNat_eq_natCast,BitVec.ofInt_natCast,BitVec.toNat_and,BitVec.toNat_ofNat]
      rw [Nat.mod_eq_of_lt (by omega),Nat.mod_eq_of_lt (by omega)]
      rfl
     have h2:Nat.land x' y'≤x':=Nat.and_le_left
     have h3:IntKind.u64.wrap (Int.ofNat (Nat.land x' y'))=Int.ofNat (Nat.land x' y'):=IntWalk.u64_in _ ⟨by simp only [Int.ofNat_eq_natCast];omega,by simp only [Int.ofNat_eq_natCast];omega⟩
     have h4:(binOp .and t (.int .u64 (Int.ofNat x')) (.int .u64 (Int.ofNat y'))).run P w= .ok (.int .u64 (IntKind.u64.wrap (Int.ofNat (BitVec.ofInt 64 (Int.ofNat x') &&& BitVec.ofInt 64 (Int.ofNat y')).toNat))) w:=rfl
     rw [h4,h1,h3]
  · cases e
 all_goals (unfold abj at e;cases e)
end
end Go.Ve
