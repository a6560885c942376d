/- Part 5: each operation of the evaluator stands for the machine's own, second half. No condition. -/
import Derived.Test.YteeibihhdldjfaaGreatDoorVeD
import Derived.Laws.Build
set_option linter.unusedVariables false
set_option linter.unusedSimpArgs false
namespace Go.Ve
open Go.RowKit
section
variable {P:Program}{w0 w:World}{φ:aY}{h:AH}{ρ:Operand→Value}{o:Oper}{vs:List Value}{k:KV}
theorem avn {op:BinOp}{t u:TypeId}{x y:Operand}(ho:o.op= .binOp op t x y u) (H:HR P w0 φ h w) (hv:LR φ vs ([x,y].map ρ)) (e:Tn op vs h k=true):PR P w0 φ h ((execOp ρ o).run P w) fun v h'=>k v h'=true:=by
 obtain⟨p,q,aM,e1⟩:=lx e;clear e;subst aM;have e:=e1;clear e1
 obtain⟨p',q',hp,hr,hq⟩:=hv.two
 simp at hp;obtain⟨e1,e2⟩:=hp;subst e1 e2
 obtain⟨a,aM,e1⟩:=ql e;clear e;subst aM;have e:=e1;clear e1
 obtain⟨b,aM,e1⟩:=ql e;clear e;subst aM;have e:=e1;clear e1
 have hg:(eqGuard op t x y (.string a) (.string b)).run P w= .ok () w:=by
  unfold eqGuard
  split<;>simp
 have hx:=hr.od
 have hy:=hq.od
 cases op<;>simp only [ab0]at e<;>first | (cases e;done) | skip
 case eql=>rw [lA,eqStr]at e;exact .same H (by simp only [execOp,ho,hx,hy];simp [hg,binOp,Op.stringOp]) (.bool _) e
 case neq=>rw [lA,eqStr]at e;exact .same H (by simp only [execOp,ho,hx,hy];simp [hg,binOp,Op.stringOp]) (.bool _) e
theorem ajx {op:BinOp}{t u:TypeId}{x y:Operand}{ng:Bool}(ho:o.op= .binOp op t x y u) (bK:(op= .eql∧ng=false)∨(op= .neq∧ng=true)) (hu:P.underlying t=some .bool) (H:HR P w0 φ h w) (hv:LR φ vs ([x,y].map ρ)) (e:ace ng vs h k=true):PR P w0 φ h ((execOp ρ o).run P w) fun v h'=>k v h'=true:=by
 obtain⟨p,q,aM,e1⟩:=lx e;clear e;subst aM;have e:=e1;clear e1
 obtain⟨p',q',hp,hr,hq⟩:=hv.two
 simp at hp;obtain⟨e1,e2⟩:=hp;subst e1 e2
 obtain⟨a,aM,e1⟩:=Lv e;clear e;subst aM;have e:=e1;clear e1
 obtain⟨b,aM,e1⟩:=Lv e;clear e;subst aM;have e:=e1;clear e1
 have hg:(eqGuard op t x y (.bool a) (.bool b)).run P w= .ok () w:=by
  unfold eqGuard
  split<;>simp
 have hx:=hr.yi
 have hy:=hq.yi
 rw [lA]at e
 have heq:(Op.equal t (.bool a) (.bool b)).run P w= .ok (a==b) w:=run_equalIn_bool' w 9999 t a b hu
 rcases bK with⟨rfl,rfl⟩ | ⟨rfl,rfl⟩
 · exact .same H (v:=.bool (a==b)) (by simp only [execOp,ho,hx,hy];simp [hg,binOp,heq]) (.bool _) (by cases a<;>cases b<;>exact e)
 · exact .same H (v:=.bool (!(a==b))) (by simp only [execOp,ho,hx,hy];simp [hg,binOp,heq]) (.bool _) (by cases a<;>cases b<;>exact e)
theorem amI {nk:Nat}{v v':Value}{b:Bool}(hv:VR φ v v') (h:lP nk v=some b):lP nk v'=some b:=by
 unfold lP at h
 split at h<;>cases h<;>cases hv<;>rfl
theorem avq {x:Operand}{t:TypeId}(ho:o.op= .unOp .neg t x) (H:HR P w0 φ h w) (hv:LR φ vs ([x].map ρ)) (e:acg vs h k=true):PR P w0 φ h ((execOp ρ o).run P w) fun v h'=>k v h'=true:=by
 obtain⟨p,aM,e1⟩:=iU e;clear e;subst aM;have e:=e1;clear e1
 obtain⟨p',hp,hr⟩:=hv.one
 simp at hp;subst hp
 obtain⟨kd,n,aM,e1⟩:=tt e;clear e;subst aM;have e:=e1;clear e1
 have hz:Int.sub (.ofNat 0) n= -n:=by show(0:Int)-n= -n;omega
 rw [tA,Iu,hz]at e
 exact .same H (by simp only [execOp,ho,hr.lj];simp [Op.unary,Op.intArith]) (.int _ _) e
theorem avr {x:Operand}{t:TypeId}(ho:o.op= .unOp .not t x) (H:HR P w0 φ h w) (hv:LR φ vs ([x].map ρ)) (e:ach vs h k=true):PR P w0 φ h ((execOp ρ o).run P w) fun v h'=>k v h'=true:=by
 obtain⟨p,aM,e1⟩:=iU e;clear e;subst aM;have e:=e1;clear e1
 obtain⟨p',hp,hr⟩:=hv.one
 simp at hp;subst hp
 obtain⟨b,aM,e1⟩:=Lv e;clear e;subst aM;have e:=e1;clear e1
 rw [lA]at e
 exact .same H (by simp only [execOp,ho,hr.yi];simp [Op.unary]) (.bool _) e
theorem avs {x:Operand}{s t:TypeId}{k1 k2:IntKind}(ho:o.op= .convert s t x) (hs:P.underlying s=some (.int k1)) (ht:P.underlying t=some (.int k2)) (H:HR P w0 φ h w) (hv:LR φ vs ([x].map ρ)) (e:aci k2 vs h k=true):PR P w0 φ h ((execOp ρ o).run P w) fun v h'=>k v h'=true:=by
 obtain⟨p,aM,e1⟩:=iU e;clear e;subst aM;have e:=e1;clear e1
 obtain⟨p',hp,hr⟩:=hv.one
 simp at hp;subst hp
 obtain⟨kd,n,aM,e1⟩:=tt e;clear e;subst aM;have e:=e1;clear e1
 rw [tA,Iu]at e
 exact .same H (by simp only [execOp,ho,hr.lj];simp [convert,run_underlying hs,run_underlying ht,Conv.intToInt]) (.int _ _) e
theorem ajA {fn:Fn}{first dm:Array Operand}(ho:o.op= .makeFunc fn first dm) (hf:∀φ,B5 φ fn fn) (H:HR P w0 φ h w) (hv:LR φ vs ((first.toList++dm.toList).map ρ)) (e:acj fn first.size vs h k=true):PR P w0 φ h ((execOp ρ o).run P w) fun v h'=>k v h'=true:=by
 obtain⟨e,h1⟩:=TW _ e
 obtain⟨e,_⟩:=TX _ e
 refine .same H (v':=.func fn (first.map ρ) (dm.map ρ)) ?_ (.func _ _ _ _ _ _ (hf φ) ?_ ?_) e
 · simp [execOp,ho,Instr.makeFunc]
 · have:=hv.take first.size
   simpa [List.take_append]using this
 · have:=hv.drop first.size
   simpa [List.drop_append]using this
theorem avv {t:TypeId}{x:Operand}(ho:o.op= .makeInterface t x) (hc:P.concrete t=true) (H:HR P w0 φ h w) (hv:LR φ vs ([x].map ρ)) (e:ack t vs h k=true):PR P w0 φ h ((execOp ρ o).run P w) fun v h'=>k v h'=true:=by
 obtain⟨p,aM,e1⟩:=iU e;clear e;subst aM;have e:=e1;clear e1
 obtain⟨p',hp,hr⟩:=hv.one
 simp at hp;subst hp
 exact .same H (by simp [execOp,ho,run_makeInterface w t (ρ x) hc]) (.iface _ _ _ hr) e
theorem avw {t:TypeId}(ho:o.op= .makeMap t none) (H:HR P w0 φ h w) (e:akn vs h k=true):PR P w0 φ h ((execOp ρ o).run P w) fun v h'=>k v h'=true:=by
 obtain⟨_,e⟩:=B9 e
 obtain⟨bU,h1,h2⟩:=B8 e
 obtain⟨g1,g2⟩:=H.newAt (f:=h.nx) (o:=.map [] 0) (o':=.map #[] 0) (d:=0) (n:=0) (h':=⟨h.nx+1,bU⟩) (H.fresh _ (Nat.le_refl _)) h1.1 (fun g hg _=>h1.2 g hg) (fun g hg=>H.fresh g (by simp only at hg;omega)) (fun g hg=>by rw [h1.2 g (by simp only at hg;omega)];exact H.top g (by simp only at hg;omega)) (by simp) _ (Nat.le_refl _) (.map _ _ _ _ _ .nil)
 refine⟨.map (some w.heap.size),_,_,_,_,.inl ?_,h2,g2,by simp,.map _ _ (by simp [aY.put]) (fun b d n hl=>?_),g1⟩
 · simp [execOp,ho,Instr.makeMap,World.alloc_eq]
 · simp only [aY.me]at hl;cases hl;rfl
theorem avx {x:Operand}{i:Nat}(ho:o.op= .extract x i) (H:HR P w0 φ h w) (hv:LR φ vs ([x].map ρ)) (e:acm i vs h k=true):PR P w0 φ h ((execOp ρ o).run P w) fun v h'=>k v h'=true:=by
 obtain⟨p,aM,e1⟩:=iU e;clear e;subst aM;have e:=e1;clear e1
 obtain⟨p',hp,hr⟩:=hv.one
 simp at hp;subst hp
 obtain⟨a,aM,e1⟩:=axB e;clear e;subst aM;have e:=e1;clear e1
 obtain⟨a',hx,hl⟩:=hr.alT
 obtain⟨v,g1,g2⟩:=Mg _ e
 obtain⟨v',g3,g4⟩:=LR.get hl _ _ g1
 have Iw:a'[i]? =some v':=by simpa using g3
 exact .same H (by simp [execOp,ho,hx,Instr.extract,Iw]) g4 g2
theorem qj {b:Builtin}{c:Call}(ho:o.op= .call c) (hc:c.callee= .builtin b):
 (execOp ρ o).run P w=(builtin b c.argTypes o.type (c.args.map fun | .const _=>true | _=>false) (c.args.map ρ)).run P w:=by
 simp [execOp,ho,resolve,hc,invoke]
 rfl
theorem avJ {c:Call}{x:Operand}{t e':TypeId}(ho:o.op= .call c) (hc:c.callee= .builtin .len) (ha:c.args= #[x]) (ht:c.argTypes[0]? =some t) (hu:P.underlying t=some (.slice e')) (H:HR P w0 φ h w) (hv:LR φ vs ([x].map ρ)) (e:acn vs h k=true):PR P w0 φ h ((execOp ρ o).run P w) fun v h'=>k v h'=true:=by
 obtain⟨p,aM,e1⟩:=iU e;clear e;subst aM;have e:=e1;clear e1
 obtain⟨p',hp,hr⟩:=hv.one
 simp at hp;subst hp
 rcases wZ e with⟨l,c',aM,e1⟩ | ⟨a,l,c',aM,e1⟩<;>(clear e;subst aM)
 · obtain⟨rfl,rfl,hx⟩:=hr.yj
   refine .same H ?_ (.int _ _) e1
   rw [qj ho hc]
   simp [builtin,Builtin.len_,ha,ht,hx,run_underlying hu,goInt]
 · obtain⟨a',c'',hx,_,_⟩:=hr.vD
   refine .same H ?_ (.int _ _) e1
   rw [qj ho hc]
   simp [builtin,Builtin.len_,ha,ht,hx,run_underlying hu,goInt]
theorem avI {c:Call}{x:Operand}{t:TypeId}(ho:o.op= .call c) (hc:c.callee= .builtin .len) (ha:c.args= #[x]) (ht:c.argTypes[0]? =some t) (hu:P.underlying t=some .string) (H:HR P w0 φ h w) (hv:LR φ vs ([x].map ρ)) (e:aco vs h k=true):PR P w0 φ h ((execOp ρ o).run P w) fun v h'=>k v h'=true:=by
 obtain⟨p,aM,e1⟩:=iU e;clear e;subst aM;have e:=e1;clear e1
 obtain⟨p',hp,hr⟩:=hv.one
 simp at hp;subst hp
 obtain⟨s,aM,e1⟩:=ql e;clear e;subst aM;have e:=e1;clear e1
 rw [dG]at e
 refine .same H ?_ (.int _ _) e
 rw [qj ho hc]
 simp [builtin,Builtin.len_,ha,ht,hr.od,run_underlying hu,goInt]
theorem ER.length:∀{l:List (Value×Value×Nat)}{l':List MapEntry},ER φ l l'→l.length=l'.length
 | _,_,.nil=>rfl
 | _,_,.cons _ _ _ _ _ _ _ _ _ h=>by simp [ER.length h]
theorem HR.abp (H:HR P w0 φ h w){r r':Nat}{es:List (Value×Value×Nat)}{cl:Nat}(hs:φ r≠none) (hr:∀b d n,φ r=some (.live b d n)→r'=b) (ho:h.ob.get r=some (.map es cl)):
 ∃d n eJ,φ r=some (.live r' d n)∧w.heap[r']? =some (.map eJ cl)∧ER φ es eJ.toList∧w0.heap.size≤r':=by
 obtain⟨b,d,n,o',h1,h2,h3,h4⟩:=H.live hs ho
 obtain rfl:=hr b d n h1
 cases h3 with
 | map _ _ _ eJ cl he=>exact⟨d,n,eJ,h1,h2,he,h4 rfl⟩
theorem avK {c:Call}{x:Operand}{t k' e':TypeId}(ho:o.op= .call c) (hc:c.callee= .builtin .len) (ha:c.args= #[x]) (ht:c.argTypes[0]? =some t) (hu:P.underlying t=some (.map k' e')) (H:HR P w0 φ h w) (hv:LR φ vs ([x].map ρ)) (e:acp vs h k=true):PR P w0 φ h ((execOp ρ o).run P w) fun v h'=>k v h'=true:=by
 obtain⟨p,aM,e1⟩:=iU e;clear e;subst aM;have e:=e1;clear e1
 obtain⟨p',hp,hr⟩:=hv.one
 simp at hp;subst hp
 rcases SG e with⟨aM,e1⟩ | ⟨r,aM,e1⟩<;>(clear e;subst aM)
 · refine .same H ?_ (.int _ _) e1
   rw [qj ho hc]
   simp [builtin,Builtin.len_,ha,ht,hr.abo,run_underlying hu,goInt]
 · obtain⟨r',hx,hs,qX⟩:=hr.SH
   obtain⟨es,cl,g1,g2⟩:=EU e1
   obtain⟨d,n,eJ,_,q2,q3,_⟩:=H.abp hs qX g1
   rw [dG]at g2
   refine .same H ?_ (.int _ _) g2
   rw [qj ho hc]
   have:=q3.length
   simp [builtin,Builtin.len_,ha,ht,hx,run_underlying hu,goInt,getObj,Sem.run,q2,this]
theorem avL {c:Call}{x:Operand}{t e':TypeId}{n:Nat}(ho:o.op= .call c) (hc:c.callee= .builtin .len) (ha:c.args= #[x]) (ht:c.argTypes[0]? =some t) (hu:P.underlying t=some (.array n e')) (H:HR P w0 φ h w) (e:acq n vs h k=true):PR P w0 φ h ((execOp ρ o).run P w) fun v h'=>k v h'=true:=by
 obtain⟨p,aM,e1⟩:=iU e;clear e;subst aM;have e:=e1;clear e1
 refine .same H ?_ (.int _ _) e
 rw [qj ho hc]
 simp only [builtin,Builtin.len_,ha,ht]
 generalize ρ x=X
 cases X<;>simp [run_underlying hu,goInt]
end
end Go.Ve
