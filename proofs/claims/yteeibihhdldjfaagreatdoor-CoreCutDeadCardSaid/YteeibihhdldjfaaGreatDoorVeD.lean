/- Part 4: each operation of the evaluator stands for the machine's own, first half. No condition. -/
import Derived.Test.YteeibihhdldjfaaGreatDoorVeC
import Derived.IntWalk
import Derived.Laws.StructEq
import Derived.Laws.RangeString
import Derived.WideLaws
set_option linter.unusedVariables false
set_option linter.unusedSimpArgs false
namespace Go.Ve
open Go.RowKit
def PR (P:Program) (w0:World) (φ:aY) (h:AH) (r:Result Next) (Q:Z→AH→Prop):Prop:=∃v' w' v h' φ',(r= .ok (.value v') w'∨(r= .ok .skip w'∧v'=undef))∧Q v h'∧Ext h.nx φ φ'∧h.nx≤h'.nx∧VR φ' v v'∧HR P w0 φ' h' w'
section
variable {P:Program}{w0 w:World}{φ:aY}{h:AH}{ρ:Operand→Value}{o:Oper}{vs:List Value}{k:KV}
theorem PR.same {r Q}(H:HR P w0 φ h w){v v':Z}(hr:r= .ok (.value v') w)(hv:VR φ v v')(hq:Q v h):PR P w0 φ h r Q:=
 ⟨v',w,v,h,φ,.inl hr,hq,Ext.refl _ _,zad _,hv,H⟩
theorem nJ {t i}(hi:P.info? t=some i)(w:World):(sizeOf t).run P w= .ok i.size w:=by simp [sizeOf,typeInfo,hi]
theorem yk {t i z}(hi:P.info? t=some i)(hz:i.zero=some z)(w:World):(zeroValue t).run P w= .ok z w:=by simp [zeroValue,typeInfo,hi,hz]
theorem Av {t d}(hu:P.underlying t=some d)(w:World):(isAgg t).run P w= .ok (sd d) w:=by
 cases d<;>simp [isAgg,run_underlying hu,sd]
theorem qZ {t s}(h:iN P t=some s):∃i,P.info? t=some i∧i.size=s:=by
 unfold iN at h;cases hi:P.info? t with
 | none=>simp [hi]at h
 | some i=>exact⟨i,rfl,by simpa [hi]using h⟩
theorem vE {t z}(h:zeroOf P t=some z):∃i,P.info? t=some i∧i.zero=some z∧Hy z=true:=by
 unfold zeroOf at h;split at h
 · rename_i i hi;split at h
   · rename_i z' hz;split at h
     · cases h;exact⟨i,hi,hz,by assumption⟩
     · cases h
   · cases h
 · cases h
theorem amx {v}(h:TK v=true):VR φ v v:=by
 unfold TK at h
 split at h<;>first
  | (constructor;done)
  | (simp only [zae,zbg]at h;obtain⟨rfl,rfl⟩:=h;exact .qW)
  | cases h
theorem LR.amy:∀ {l},(∀v∈l,VR φ v v)→LR φ l l
 | [],_=>.nil
 | v::l,h=>.cons v v l l (h v (by simp)) (LR.amy fun u hu=>h u (by simp [hu]))
theorem w7 {v}(h:Hy v=true):VR φ v v:=by
 unfold Hy at h;split at h
 · exact .agg _ _ (LR.amy fun u hu=>amx (List.all_eq_true.1 h u hu))
 · rename_i f a b;simp only [zae,Array.isEmpty_iff]at h;obtain⟨rfl,rfl⟩:=h;exact .func _ _ _ _ _ _ (.func f) .nil .nil
 · exact amx h
theorem amz (n:Int)(h1: -9223372036854775808≤n)(h2:n≤9223372036854775807):n=IntKind.i64.wrap n:=by rw [IntKind.wrap_i64];omega
theorem amA {a}(h:Nat.ble a Ax=true):a≤9223372036854775807:=zaa h
theorem amB {α:Type}{c:Bool}{a b x:α}(h1:c=true→a=x)(h2:c=false→b=x):(bif c then a else b)=x:=by
 cases c
 · exact h2 rfl
 · exact h1 rfl
theorem Iu (k:IntKind) (n:Int):bN k n=k.wrap n:=by
 cases k
 case i64=>
  cases n with
  | ofNat a=>
   exact amB (c:=Nat.ble a Ax) (fun hb=>by
    have h1:=amA hb;exact amz _ (by simp only [Int.ofNat_eq_natCast];omega) (by simp only [Int.ofNat_eq_natCast];omega)) (fun _=>rfl)
  | negSucc a=>
   exact amB (c:=Nat.ble a Ax) (fun hb=>by
    have h1:=amA hb;exact amz _ (by omega) (by omega)) (fun _=>rfl)
 all_goals rfl
theorem Ak (a b:Int):qp a b=(a==b):=by
 cases a<;>cases b<;>simp only [qp]
 · rename_i a b
   by_cases e:a=b
   · subst e;simp
   · rw [jt e];symm;simp;omega
 · rfl
 · rfl
 · rename_i a b
   by_cases e:a=b
   · subst e;simp
   · rw [jt e];symm;simp;exact e
theorem B6 (a b:Nat):Nat.ble a b=decide (a≤b):=by
 cases h:Nat.ble a b with
 | true=>simp [zaa h]
 | false=>symm;simp only [zbk];exact fun hle=>by rw [Nat.ble_eq_true_of_le hle]at h;cases h
theorem Hw (a b:Int):tB a b=decide (a<b):=by
 cases a<;>cases b<;>simp only [tB,B6]
 · rename_i a b;rw [zbz];simp only [za0];omega
 · symm;simp only [zbk,za0];omega
 · symm;simp only [zap,za0];omega
 · rename_i a b;rw [zbz];omega
theorem dle (a b:Int):decide (a≤b)= !decide (b<a):=by by_cases h:b<a<;>simp [h]<;>omega
theorem uO {a b}(h:jE a b=true):a=b:=by cases a<;>cases b<;>first | rfl | cases h
theorem acB:∀(l m:List UInt8),nN l m=(l==m)
 | [],[]=>rfl
 | [],_::_=>rfl
 | _::_,[]=>rfl
 | a::l,b::m=>by
  simp only [nN,List.cons_beq_cons]
  by_cases e:a=b
  · subst e;simp [acB l m]
  · rw [jt (fun h=>e (UInt8.toNat_inj.1 h))];symm;simp [e]
theorem eqStr (a b:ByteArray):nN a.data.toList b.data.toList=(a.toList==b.toList):=by
 rw [acB,ByteArray.toList_eq,ByteArray.toList_eq]
theorem ajw {x}(ho:o.op= .move x∨o.op= .assign x)(H:HR P w0 φ h w)(hv:LR φ vs ([x].map ρ))(e:ab1 vs h k=true):PR P w0 φ h ((execOp ρ o).run P w) fun v h'=>k v h'=true:=by
 obtain⟨a,aM,e'⟩:=iU e;clear e;subst aM;have e:=e';clear e';obtain⟨a',ha,hr⟩:=hv.one;simp at ha;subst ha;rcases ho with ho | ho<;>exact .same H (by simp [execOp,ho]) hr e
theorem au4 {c a b}(ho:o.op= .pick c a b)(H:HR P w0 φ h w)(hv:LR φ vs ([c,a,b].map ρ))(e:ab2 vs h k=true):PR P w0 φ h ((execOp ρ o).run P w) fun v h'=>k v h'=true:=by
 obtain⟨vc,va,vb,aM,e'⟩:=ajk e;clear e;subst aM;have e:=e';clear e';obtain⟨t,aM,e'⟩:=Lv e;clear e;subst aM;have e:=e';clear e';obtain⟨c',a',b',hx,hc,ha,hb⟩:=hv.three;simp at hx;obtain⟨h1,h2,h3⟩:=hx;subst h1 h2 h3;have hC:ρ c= .bool t:=by generalize ρ c=C at hc;cases hc;rfl
 cases t with
 | true=>exact .same H (by simp [execOp,ho,asBool,hC]) ha e
 | false=>exact .same H (by simp [execOp,ho,asBool,hC]) hb e
theorem PR.newRow (H:HR P w0 φ h w){ty:TypeId}{l l':ZZE}(hl:LR φ l l'){c:NT Z}{bU:NT AO}(hc:∀j v,l[j]? =some v→c.get j=some v)
 (ee:h.ob.mU h.nx (some (.cells 0 l.length ty true c)) bU):
 HR P w0 (φ.put h.nx (.live w.heap.size 0 l'.length)) ⟨h.nx+1,bU⟩ (w.alloc (.cells l'.toArray ty))∧Ext h.nx φ (φ.put h.nx (.live w.heap.size 0 l'.length)):=by
 refine H.newAt (H.fresh _ (zad _)) ee.1 (fun g hg _=>ee.2 g hg) (fun g hg=>H.fresh g (by simp only at hg;omega)) (fun g hg=>by rw [ee.2 g (by simp only at hg;omega)];exact H.top g (by simp only at hg;omega)) (by simp) _ (zad _) (.cells _ _ _ _ _ _ _ _ _ (fun _=>rfl) (zad _) (by simp) fun p _ hp=>?_);obtain⟨u,hu,hr⟩:=LR.get hl p _ (zab hp);exact⟨l[p],u,hc p _ (zab hp),by simpa using hu,hr⟩
theorem PR.HC {φ:aY}{f B n:Nat}:VR (φ.put f (.live B 0 n)) (ak f 0) (.pointer (some ⟨B,0,none⟩)):=by
 refine .ptr _ _ (by simp [aY.put]) fun b d n h=>?_;simp only [aY.me]at h;cases h;exact⟨rfl,rfl,rfl⟩
theorem PR.amC {r:Result Next}(H:HR P w0 φ h w){ty:TypeId}{l l':ZZE}(hl:LR φ l l'){k:KV}(e:pM h ty l (fun b h=>k (ak b 0) h)=true)
 (hr:r= .ok (.value (.pointer (some ⟨w.heap.size,0,none⟩))) (w.alloc (.cells l'.toArray ty))):PR P w0 φ h r fun v h'=>k v h'=true:=by
 obtain⟨w4,c,bU,h1,h2,h3⟩:=Aj e;obtain⟨g1,g2⟩:=PR.newRow H hl h1 h2;exact⟨_,_,_,_,_,.inl hr,h3,g2,by simp,PR.HC,g1⟩
theorem au5 {ty z}(ho:o.op= .alloc ty)(hz:zeroOf P ty=some z)(H:HR P w0 φ h w)(e:akh ty z.cells.toList vs h k=true):PR P w0 φ h ((execOp ρ o).run P w) fun v h'=>k v h'=true:=by
 obtain⟨i,hi,hz,jd⟩:=vE hz;obtain⟨aM,e'⟩:=B9 e;clear e;subst aM;have e:=e';clear e';refine PR.amC H (VR.cells (w7 jd)) e ?_;simp [execOp,ho,Instr.alloc,yk hi hz,newVar,newRow,World.alloc_eq]
theorem au6 {ty x}(ho:o.op= .box ty x)(H:HR P w0 φ h w)(hv:LR φ vs ([x].map ρ))(e:aki ty vs h k=true):PR P w0 φ h ((execOp ρ o).run P w) fun v h'=>k v h'=true:=by
 obtain⟨a,aM,e'⟩:=iU e;clear e;subst aM;have e:=e';clear e';obtain⟨a',ha,hr⟩:=hv.one;simp at ha;subst ha;rw [HD]at e;refine PR.amC H (VR.cells hr) e ?_;simp [execOp,ho,Instr.box,newVar,newRow,World.alloc_eq]
theorem VR.oZ {a v'}(h:VR φ (.pointer (some a)) v'):∃a',v'= .pointer (some a')∧φ a.block≠none∧AtR φ a a':=by
 cases h with | ptr _ a' h1 h2=>exact⟨a',rfl,h1,h2⟩
theorem VR.vD {a l c v'}(h:VR φ (.slice (some a) l c) v'):∃a' c',v'= .slice (some a') l c'∧φ a.block≠none∧Ae φ a a' l c c':=by
 cases h with | sl _ a' _ _ c' h1 h2=>exact⟨a',c',rfl,h1,h2⟩
theorem VR.yj {l c v'}(h:VR φ (.slice none l c) v'):l=0∧c=0∧v'= .slice none 0 0:=by
 cases h;exact⟨rfl,rfl,rfl⟩
theorem VR.lj {kd n v'}(h:VR φ (.int kd n) v'):v'= .int kd n:=by cases h;rfl
theorem VR.yi {b v'}(h:VR φ (.bool b) v'):v'= .bool b:=by cases h;rfl
theorem VR.od {s v'}(h:VR φ (.string s) v'):v'= .string s:=by cases h;rfl
theorem VR.Fx {a v'}(h:VR φ (.agg a) v'):∃a',v'= .agg a'∧LR φ a.toList a'.toList:=by
 cases h with | agg _ a' h=>exact⟨a',rfl,h⟩
theorem VR.alT {a v'}(h:VR φ (.tuple a) v'):∃a',v'= .tuple a'∧LR φ a.toList a'.toList:=by
 cases h with | ko _ a' h=>exact⟨a',rfl,h⟩
theorem VR.SH {r v'}(h:VR φ (.map (some r)) v'):∃r',v'= .map (some r')∧φ r≠none∧∀b d n,φ r=some (.live b d n)→r'=b:=by
 cases h with | map _ r' h1 h2=>exact⟨r',rfl,h1,h2⟩
theorem VR.abo {v'}(h:VR φ (.map none) v'):v'= .map none:=by cases h;rfl
theorem au8 {t d x}(ho:o.op= .load t x)(hu:P.underlying t=some d)(hd:sd d=false)(H:HR P w0 φ h w)(hv:LR φ vs ([x].map ρ))(e:ab3 vs h k=true):PR P w0 φ h ((execOp ρ o).run P w) fun v h'=>k v h'=true:=by
 obtain⟨p,aM,e'⟩:=iU e;clear e;subst aM;have e:=e';clear e';obtain⟨p',hp,hr⟩:=hv.one;simp at hp;subst hp;obtain⟨a,aM,e'⟩:=qY e;clear e;subst aM;have e:=e';clear e';obtain⟨a',ha,hs,eU⟩:=hr.oZ;obtain⟨lo,hi,ty,rw,c,v,h1,h2,h3,h4,h5⟩:=S9 e;obtain⟨v',hc,Lw⟩:=H.cell hs eU h1 (j:=0) (by omega) (by omega) (by simpa using h4);refine .same H ?_ Lw h5;have:a'.add 0=a':=rfl;rw [this]at hc;simp [execOp,ho,ha,Instr.loadAt,Instr.sureAddr,loadVar,Av hu,hd,hc]
theorem au7 {t d n x}(ho:o.op= .load t x)(hu:P.underlying t=some d)(hd:sd d=true)(hz:iN P t=some n)(H:HR P w0 φ h w)(hv:LR φ vs ([x].map ρ))(e:ab4 n vs h k=true):PR P w0 φ h ((execOp ρ o).run P w) fun v h'=>k v h'=true:=by
 obtain⟨i,hi,rfl⟩:=qZ hz;obtain⟨p,aM,e'⟩:=iU e;clear e;subst aM;have e:=e';clear e';obtain⟨p',hp,hr⟩:=hv.one;simp at hp;subst hp;obtain⟨a,aM,e'⟩:=qY e;clear e;subst aM;have e:=e';clear e';obtain⟨a',ha,hs,eU⟩:=hr.oZ;obtain⟨lo,S8,ty,rw,c,l,h1,h2,h3,h4,h5,h6⟩:=B7 e;obtain⟨l',hl,dT⟩:=H.cells hs eU h1 h2 (by omega) h5;refine .same H ?_ (.agg ⟨l⟩ l'.toArray (by simpa using hl)) h6;rw [h4]at dT;simp [execOp,ho,ha,Instr.loadAt,Instr.sureAddr,loadVar,Av hu,hd,nJ hi,dT w rfl]
theorem au9 {t n x y}(ho:o.op= .store t x y)(hz:iN P t=some n)(H:HR P w0 φ h w)(hv:LR φ vs ([x,y].map ρ))(e:akl n vs h k=true):PR P w0 φ h ((execOp ρ o).run P w) fun v h'=>k v h'=true:=by
 obtain⟨i,hi,rfl⟩:=qZ hz;obtain⟨p,v,aM,e'⟩:=lx e;clear e;subst aM;have e:=e';clear e';obtain⟨p',v',hp,hr,Lw⟩:=hv.two;simp at hp;obtain⟨e1,e2⟩:=hp;subst e1 e2;obtain⟨a,aM,e'⟩:=qY e;clear e;subst aM;have e:=e';clear e';obtain⟨a',ha,hs,eU⟩:=hr.oZ;obtain⟨hle,e⟩:=dX e;have hle:=SM _ hle;rw [HD]at hle e;obtain⟨lo,S8,ty,c,c',bU,g1,g2,g3,g4,g5,g6,g7,g8⟩:=abl e;have ly:=VR.cells Lw;obtain⟨w',dT,HH,_⟩:=H.write hs eU g1 g2 g3 ly g4 g5 g6 g7;refine⟨undef,w',undef,_,φ,.inr ⟨?_,rfl⟩,g8,Ext.refl _ _,zad _,VR.undef _,HH⟩;have je:(ρ y).cells.size=i.size:=by rw [←hle,LR.length ly];simp
 simp [execOp,ho,ha,Instr.storeAt,Instr.sureAddr,storeVar,nJ hi,je,dT]
theorem ava {x}(ho:o.op= .nilCheck x)(H:HR P w0 φ h w)(hv:LR φ vs ([x].map ρ))(e:ab5 vs h k=true):PR P w0 φ h ((execOp ρ o).run P w) fun v h'=>k v h'=true:=by
 obtain⟨a,aM,e'⟩:=iU e;clear e;subst aM;have e:=e';clear e';obtain⟨a',ha,hr⟩:=hv.one;simp at ha;subst ha;obtain⟨h1,h2⟩:=dX e;refine .same H ?_ hr h2;generalize hA:ρ x=A at hr;simp only [execOp,ho,hA];cases hr with
 | func fn Af first oY dm n9 hf _ _=>
  cases hf with
  | func f=>rfl
  | method s=>simp [LH]at h1
  | yield l l' _ _=>rfl
 | SD=>simp [LH]at h1
 | abg=>simp [LH]at h1
 | Hv=>simp [LH]at h1
 | _=>rfl
theorem avb {s x f fs fl sz}(ho:o.op= .fieldAddr s x f)(hu:P.underlying s=some (.struct fs))(hf:fs[f]? =some fl)(hz:iN P fl.type=some sz)(je:sz≠0)
 (H:HR P w0 φ h w) (hv:LR φ vs ([x].map ρ)) (e:ab6 fl.offset vs h k=true):PR P w0 φ h ((execOp ρ o).run P w) fun v h'=>k v h'=true:=by
 obtain⟨i,hi,rfl⟩:=qZ hz;obtain⟨p,aM,e'⟩:=iU e;clear e;subst aM;have e:=e';clear e';obtain⟨p',hp,hr⟩:=hv.one;simp at hp;subst hp;obtain⟨a,aM,e'⟩:=qY e;clear e;subst aM;have e:=e';clear e';rw [dG]at e;obtain⟨a',ha,hs,eU⟩:=hr.oZ;refine .same H (v':=.pointer (some (a'.add fl.offset))) ?_ (.ptr ⟨a.block,a.off+fl.offset,none⟩ _ hs fun b d n hl=>?_) e
 · simp [execOp,ho,ha,Instr.fieldAt,Instr.sureAddr,run_underlying hu,hf,fieldPlace,nJ hi,je]
 · obtain⟨e1,e2,e3⟩:=eU b d n hl;rw [si a' e3];exact⟨e1,by show a'.off+fl.offset+d=a.off+fl.offset;omega,rfl⟩
theorem avd {s x f fs fl d}(ho:o.op= .field s x f)(hu:P.underlying s=some (.struct fs))(hf:fs[f]? =some fl)(hd:P.underlying fl.type=some d)(ha:sd d=false)
 (H:HR P w0 φ h w) (hv:LR φ vs ([x].map ρ)) (e:ab7 fl.offset vs h k=true):PR P w0 φ h ((execOp ρ o).run P w) fun v h'=>k v h'=true:=by
 obtain⟨p,aM,e'⟩:=iU e;clear e;subst aM;have e:=e';clear e';obtain⟨p',hp,hr⟩:=hv.one;simp at hp;subst hp;obtain⟨a,aM,e'⟩:=Ie e;clear e;subst aM;have e:=e';clear e';obtain⟨a',hx,hl⟩:=hr.Fx;obtain⟨v,h1,h2⟩:=Mg _ e;obtain⟨v',h3,h4⟩:=LR.get hl _ _ h1;refine .same H ?_ h4 h2;have Ld:a'[fl.offset]? =some v':=by simpa using h3
 simp [execOp,ho,hx,Instr.field,run_underlying hu,hf,asAgg,part,Av hd,ha,Ld]
theorem avc {s x f fs fl d n}(ho:o.op= .field s x f)(hu:P.underlying s=some (.struct fs))(hf:fs[f]? =some fl)(hd:P.underlying fl.type=some d)(ha:sd d=true)(hz:iN P fl.type=some n)
 (H:HR P w0 φ h w) (hv:LR φ vs ([x].map ρ)) (e:ab8 fl.offset n vs h k=true):PR P w0 φ h ((execOp ρ o).run P w) fun v h'=>k v h'=true:=by
 obtain⟨i,hi,rfl⟩:=qZ hz;obtain⟨p,aM,e'⟩:=iU e;clear e;subst aM;have e:=e';clear e';obtain⟨p',hp,hr⟩:=hv.one;simp at hp;subst hp;obtain⟨a,aM,e'⟩:=Ie e;clear e;subst aM;have e:=e';clear e';obtain⟨a',hx,hl⟩:=hr.Fx;obtain⟨e,h1⟩:=TX _ e;obtain⟨e,h2⟩:=TW _ e;refine .same H (v':=.agg (a'.extract fl.offset (fl.offset+i.size))) ?_ (.agg _ _ ?_) e
 · simp [execOp,ho,hx,Instr.field,run_underlying hu,hf,asAgg,part,Av hd,ha,nJ hi]
 · have:=(hl.drop fl.offset).take i.size;simpa [Array.toList_extract,List.extract_eq_drop_take']using this
theorem avf {t e' x y n}(ho:o.op= .indexAddr t x y)(hu:P.underlying t=some (.slice e'))(hz:iN P e'=some n)(H:HR P w0 φ h w)(hv:LR φ vs ([x,y].map ρ))(e:ab9 n vs h k=true):PR P w0 φ h ((execOp ρ o).run P w) fun v h'=>k v h'=true:=by
 obtain⟨i,hi,rfl⟩:=qZ hz;obtain⟨p,q,aM,e'⟩:=lx e;clear e;subst aM;have e:=e';clear e';obtain⟨p',q',hp,hr,hq⟩:=hv.two;simp at hp;obtain⟨e1,e2⟩:=hp;subst e1 e2;obtain⟨kd,m,aM,e'⟩:=Ai e;clear e;subst aM;have e:=e';clear e';rcases wZ e with⟨_,_,_,e'⟩ | ⟨a,l,c,aM,e'⟩
 · cases e'
 clear e;subst aM;have e:=e';clear e'
 obtain⟨cy,e⟩:=dX e;have cy:=zaa cy;rw [dG]at e;obtain⟨a',c',hx,hs,hc⟩:=hr.vD
 have eU:AtR φ a a':=by
  rcases hc with⟨h1,h2,Aq,h3⟩ | ⟨sz,h1,h2,h3,h4⟩
  · exact h3 (by omega)
  · exact(h4 (by omega)).1
 have Iv:m<l:=cy;refine .same H (v':=.pointer (some (a'.add (m*i.size)))) ?_ (.ptr ⟨a.block,a.off+m*i.size,none⟩ _ hs fun b d n hl=>?_) e
 · simp only [execOp,ho,hx,hq.lj];simp [Instr.indexAt,asIntOf,run_underlying hu,nJ hi,Iv]
 · obtain⟨e1,e2,e3⟩:=eU b d n hl;rw [si a' e3];exact⟨e1,by show a'.off+m*i.size+d=a.off+m*i.size;omega,rfl⟩
theorem ave {t e' x y len n}(ho:o.op= .indexAddr t x y)(hu:P.underlying t=some (.array len e'))(hz:iN P e'=some n)(H:HR P w0 φ h w)(hv:LR φ vs ([x,y].map ρ))(e:aca len n vs h k=true):PR P w0 φ h ((execOp ρ o).run P w) fun v h'=>k v h'=true:=by
 obtain⟨i,hi,rfl⟩:=qZ hz;obtain⟨p,q,aM,e1⟩:=lx e;clear e;subst aM;have e:=e1;clear e1;obtain⟨p',q',hp,hr,hq⟩:=hv.two;simp at hp;obtain⟨e1,e2⟩:=hp;subst e1 e2;obtain⟨kd,m,aM,e1⟩:=Ai e;clear e;subst aM;have e:=e1;clear e1;obtain⟨a,aM,e1⟩:=qY e;clear e;subst aM;have e:=e1;clear e1;obtain⟨cy,e⟩:=dX e;have cy:m<len:=zaa cy;rw [dG]at e;obtain⟨a',hx,hs,eU⟩:=hr.oZ;refine .same H (v':=.pointer (some (a'.add (m*i.size)))) ?_ (.ptr ⟨a.block,a.off+m*i.size,none⟩ _ hs fun b d n hl=>?_) e
 · simp only [execOp,ho,hx,hq.lj];simp [Instr.indexAt,Instr.sureAddr,asIntOf,run_underlying hu,nJ hi,cy]
 · obtain⟨e1,e2,e3⟩:=eU b d n hl;rw [si a' e3];exact⟨e1,by show a'.off+m*i.size+d=a.off+m*i.size;omega,rfl⟩
theorem avh {t e' x y len d}(ho:o.op= .index t x y)(hu:P.underlying t=some (.array len e'))(hd:P.underlying e'=some d)(ha:sd d=false)(hz:iN P e'=some 1)(H:HR P w0 φ h w)(hv:LR φ vs ([x,y].map ρ))(e:acb len vs h k=true):PR P w0 φ h ((execOp ρ o).run P w) fun v h'=>k v h'=true:=by
 obtain⟨i,hi,h1⟩:=qZ hz;obtain⟨p,q,aM,e1⟩:=lx e;clear e;subst aM;have e:=e1;clear e1;obtain⟨p',q',hp,hr,hq⟩:=hv.two;simp at hp;obtain⟨e1,e2⟩:=hp;subst e1 e2;obtain⟨kd,m,aM,e1⟩:=Ai e;clear e;subst aM;have e:=e1;clear e1;obtain⟨a,aM,e1⟩:=Ie e;clear e;subst aM;have e:=e1;clear e1;obtain⟨cy,e⟩:=dX e;have cy:m<len:=zaa cy;obtain⟨a',hx,hl⟩:=hr.Fx;obtain⟨v,g1,g2⟩:=Mg _ e;obtain⟨v',g3,g4⟩:=LR.get hl _ _ g1;refine .same H ?_ g4 g2;have Iw:a'[m]? =some v':=by simpa using g3
 simp only [execOp,ho,hx,hq.lj];simp [Instr.index,asIntOf,run_underlying hu,nJ hi,h1,cy,part,Av hd,ha,Iw]
theorem avg {t e' x y len n d}(ho:o.op= .index t x y)(hu:P.underlying t=some (.array len e'))(hd:P.underlying e'=some d)(ha:sd d=true)(hz:iN P e'=some n)(H:HR P w0 φ h w)(hv:LR φ vs ([x,y].map ρ))(e:acd len n vs h k=true):PR P w0 φ h ((execOp ρ o).run P w) fun v h'=>k v h'=true:=by
 obtain⟨i,hi,rfl⟩:=qZ hz;obtain⟨p,q,aM,e1⟩:=lx e;clear e;subst aM;have e:=e1;clear e1;obtain⟨p',q',hp,hr,hq⟩:=hv.two;simp at hp;obtain⟨e1,e2⟩:=hp;subst e1 e2;obtain⟨kd,m,aM,e1⟩:=Ai e;clear e;subst aM;have e:=e1;clear e1;obtain⟨a,aM,e1⟩:=Ie e;clear e;subst aM;have e:=e1;clear e1;obtain⟨cy,e⟩:=dX e;have cy:m<len:=zaa cy;obtain⟨a',hx,hl⟩:=hr.Fx;obtain⟨e,_⟩:=TX _ e;obtain⟨e,_⟩:=TW _ e;refine .same H (v':=.agg (a'.extract (m*i.size) (m*i.size+i.size))) ?_ (.agg _ _ ?_) e
 · simp only [execOp,ho,hx,hq.lj];simp [Instr.index,asIntOf,run_underlying hu,nJ hi,cy,part,Av hd,ha]
 · have:=(hl.drop (m*i.size)).take i.size;simpa [Array.toList_extract,List.extract_eq_drop_take']using this
theorem avi {t x y}(ho:o.op= .index t x y)(hu:P.underlying t=some .string)(H:HR P w0 φ h w)(hv:LR φ vs ([x,y].map ρ))(e:Tl vs h k=true):PR P w0 φ h ((execOp ρ o).run P w) fun v h'=>k v h'=true:=by
 obtain⟨p,q,aM,e1⟩:=lx e;clear e;subst aM;have e:=e1;clear e1;obtain⟨p',q',hp,hr,hq⟩:=hv.two;simp at hp;obtain⟨e1,e2⟩:=hp;subst e1 e2;obtain⟨kd,m,aM,e1⟩:=Ai e;clear e;subst aM;have e:=e1;clear e1;obtain⟨s,aM,e1⟩:=ql e;clear e;subst aM;have e:=e1;clear e1;split at e
 · rename_i c hc;rw [dG]at e;refine .same H ?_ (.int _ _) e
   have hs:s[m]? =some c:=by
    have h1:m<s.data.size:=by simpa using (List.getElem?_eq_some_iff.1 hc).1
    have h2:m<s.size:=h1;rw [getElem?_pos s m h2];simp only [zaw];have h3:s.data[m]'h1=c:=by simpa using (List.getElem?_eq_some_iff.1 hc).2
    exact h3
   simp only [execOp,ho,hr.od,hq.lj];simp [Instr.index,asIntOf,run_underlying hu,hs]
 · cases e
theorem avm {op t u x y}(ho:o.op= .binOp op t x y u)(H:HR P w0 φ h w)(hv:LR φ vs ([x,y].map ρ))(e:Tm op vs h k=true):PR P w0 φ h ((execOp ρ o).run P w) fun v h'=>k v h'=true:=by
 obtain⟨p,q,aM,e1⟩:=lx e;clear e;subst aM;have e:=e1;clear e1;obtain⟨p',q',hp,hr,hq⟩:=hv.two;simp at hp;obtain⟨e1,e2⟩:=hp;subst e1 e2;obtain⟨kx,a,aM,e1⟩:=tt e;clear e;subst aM;have e:=e1;clear e1;obtain⟨ky,b,aM,e1⟩:=tt e;clear e;subst aM;have e:=e1;clear e1
 have hg:(eqGuard op t x y (.int kx a) (.int ky b)).run P w= .ok () w:=by
  unfold eqGuard;split<;>simp
 have hx:=hr.lj;have hy:=hq.lj
 have fin:∀{v:Z},VR φ v v→(binOp op t (.int kx a) (.int ky b)).run P w= .ok v w→k v h=true→PR P w0 φ h ((execOp ρ o).run P w) fun v h'=>k v h'=true:=
  fun hvv dT hk=>.same H (by simp only [execOp,ho,hx,hy];simp [hg,dT]) hvv hk
 cases op<;>simp only [abZ]at e<;>first | (cases e;done) | skip
 case shr=>
  unfold abX at e;split at e
  · rename_i x' y';cases hb:Nat.ble y' 64 with
    | false=>rw [hb]at e;cases e
    | true=>
     rw [hb]at e;simp only [zam,dG]at e;have hle:=zaa hb;refine fin (.int _ _) ?_ e;have hm:min y' 64=y':=by omega
     have h1:¬(Int.ofNat y'<0):=by simp only [za0];omega
     have hf:(Int.ofNat x').fdiv (2 ^ y')=Int.ofNat (Nat.shiftRight x' y'):=by
      show(x':Int).fdiv (2 ^ y')=((x' >>> y':Nat):Int);have h2:(2:Int) ^ y'=((2 ^ y':Nat):Int):=by simp
      rw [Nat.shiftRight_eq_div_pow,h2,Int.fdiv_eq_ediv_of_nonneg _ (Int.natCast_nonneg _),Int.natCast_ediv]
     have ht:(Int.ofNat y').toNat=y':=rfl;simp only [binOp,Op.shift,IntKind.bits,h1,if_false,ht,hm,hf,Sem.run_pure]
  · cases e
 all_goals
  obtain⟨hk,e2⟩:=dX e
  clear e;have e:=e2;clear e2
  obtain rfl:=uO hk;simp only [abW]at e
 case add=>unfold aj4 at e;rw [tA,Iu]at e;exact fin (.int _ _) (by simp [binOp,Op.intArith]) e
 case sub=>unfold aj5 at e;rw [tA,Iu]at e;exact fin (.int _ _) (by simp [binOp,Op.intArith];rfl) e
 case mul=>unfold aj6 at e;rw [tA,Iu]at e;exact fin (.int _ _) (by simp [binOp,Op.intArith]) e
 case quo=>
  unfold aj7 at e;rw [Ak]at e;cases hb:(b==Int.ofNat 0)with
  | true=>rw [hb]at e;cases e
  | false=>
   rw [hb]at e;simp only [zak,tA,Iu]at e;have eM:b≠0:=by intro h0;subst h0;simp at hb
   exact fin (.int _ _) (by simp [binOp,Op.intDiv,eM]) e
 case rem=>
  unfold aj8 at e;rw [Ak]at e;cases hb:(b==Int.ofNat 0)with
  | true=>rw [hb]at e;cases e
  | false=>
   rw [hb]at e;simp only [zak,tA]at e;have eM:b≠0:=by intro h0;subst h0;simp at hb
   exact fin (.int _ _) (by simp [binOp,Op.intDiv,eM]) e
 case eql=>unfold aj9 at e;rw [lA,Ak]at e;exact fin (.bool _) (by simp [binOp,Op.intCmp]) e
 case neq=>unfold aka at e;rw [lA,Ak]at e;exact fin (.bool _) (by simp [binOp,Op.intCmp,bne]) e
 case lss=>unfold akb at e;rw [lA,Hw]at e;exact fin (.bool _) (by simp [binOp,Op.intCmp]) e
 case leq=>unfold akc at e;rw [lA,Hw]at e;exact fin (.bool _) (by simp [binOp,Op.intCmp,dle]) e
 case gtr=>unfold akd at e;rw [lA,Hw]at e;exact fin (.bool _) (by simp [binOp,Op.intCmp]) e
 case geq=>unfold ake at e;rw [lA,Hw]at e;exact fin (.bool _) (by simp [binOp,Op.intCmp,dle]) e
 case and=>
  unfold akf at e;split at e
  · rename_i x' y';cases hb:(Nat.ble x' 18446744073709551615&&Nat.ble y' 18446744073709551615)with
    | false=>rw [hb]at e;cases e
    | true=>
     rw [hb]at e;simp only [zam,dG]at e;simp only [zae]at hb;have Tg:=zaa hb.1;have qn:=zaa hb.2;refine fin (.int _ _) ?_ e
     have h1:(BitVec.ofInt 64 (Int.ofNat x') &&& BitVec.ofInt 64 (Int.ofNat y')).toNat=Nat.land x' y':=by
      simp only [za0,BitVec.ofInt_natCast,BitVec.toNat_and,BitVec.toNat_ofNat];rw [Nat.mod_eq_of_lt (by omega),Nat.mod_eq_of_lt (by omega)];rfl
     have h2:Nat.land x' y'≤x':=Nat.and_le_left;have h3:IntKind.u64.wrap (Int.ofNat (Nat.land x' y'))=Int.ofNat (Nat.land x' y'):=IntWalk.u64_in _ ⟨by simp only [za0];omega,by simp only [za0];omega⟩;have h4:(binOp .and t (.int .u64 (Int.ofNat x')) (.int .u64 (Int.ofNat y'))).run P w= .ok (.int .u64 (IntKind.u64.wrap (Int.ofNat (BitVec.ofInt 64 (Int.ofNat x') &&& BitVec.ofInt 64 (Int.ofNat y')).toNat))) w:=rfl;rw [h4,h1,h3]
  · cases e
 all_goals (unfold akg at e;cases e)
end
end Go.Ve
