/- Part 5: VEval, part 6: each operation of the evaluator stands for the machine's own, second half. No condition. -/
import Derived.Test.YteeibihhdldjfaaGreatDoorVeD
import Derived.Laws.Build
set_option linter.unusedVariables false
set_option linter.unusedSimpArgs false
namespace Go.Ve
open Go.RowKit
section
variable {P:Program}{w0 w:World}{φ:aO}{h:AH}{ρ:Operand→Value}{o:Oper}{vs:List Value}{k:KV}
theorem aj4 {op:BinOp}{t u:TypeId}{x y:Operand}(ho:o.op= .binOp op t x y u) (H:HR P w0 φ h w) (hv:LR φ vs ([x,y].map ρ)) (e:K3 op vs h k=true):PR P w0 φ h ((execOp ρ o).run P w) fun v h'=>k v h'=true:=by
 obtain⟨p,q,ar,e1⟩:=ji e;clear e;subst ar;have e:=e1;clear e1
 obtain⟨p',q',hp,hr,hq⟩:=hv.two
 simp at hp;obtain⟨e1,e2⟩:=hp;subst e1 e2
 obtain⟨a,ar,e1⟩:=mf e;clear e;subst ar;have e:=e1;clear e1
 obtain⟨b,ar,e1⟩:=mf e;clear e;subst ar;have e:=e1;clear e1
 have hg:(eqGuard op t x y (.string a) (.string b)).run P w= .ok () w:=by
  unfold eqGuard
  split<;>simp
 have hx:=hr.kV
 have hy:=hq.kV
 cases op<;>simp only [SS]at e<;>first | (cases e;done) | skip
 case eql=>rw [jV,eqStr]at e;exact .same H (by simp only [execOp,ho,hx,hy];simp [hg,binOp,Op.stringOp]) (.bool _) e
 case neq=>rw [jV,eqStr]at e;exact .same H (by simp only [execOp,ho,hx,hy];simp [hg,binOp,Op.stringOp]) (.bool _) e
theorem aaz {op:BinOp}{t u:TypeId}{x y:Operand}{ng:Bool}(ho:o.op= .binOp op t x y u) (aY:(op= .eql∧ng=false)∨(op= .neq∧ng=true)) (hu:P.underlying t=some .bool) (H:HR P w0 φ h w) (hv:LR φ vs ([x,y].map ρ)) (e:Td ng vs h k=true):PR P w0 φ h ((execOp ρ o).run P w) fun v h'=>k v h'=true:=by
 obtain⟨p,q,ar,e1⟩:=ji e;clear e;subst ar;have e:=e1;clear e1
 obtain⟨p',q',hp,hr,hq⟩:=hv.two
 simp at hp;obtain⟨e1,e2⟩:=hp;subst e1 e2
 obtain⟨a,ar,e1⟩:=E4 e;clear e;subst ar;have e:=e1;clear e1
 obtain⟨b,ar,e1⟩:=E4 e;clear e;subst ar;have e:=e1;clear e1
 have hg:(eqGuard op t x y (.bool a) (.bool b)).run P w= .ok () w:=by
  unfold eqGuard
  split<;>simp
 have hx:=hr.sv
 have hy:=hq.sv
 rw [jV]at e
 have heq:(Op.equal t (.bool a) (.bool b)).run P w= .ok (a==b) w:=run_equalIn_bool' w 9999 t a b hu
 rcases aY with⟨rfl,rfl⟩ | ⟨rfl,rfl⟩
 · exact .same H (v:=.bool (a==b)) (by simp only [execOp,ho,hx,hy];simp [hg,binOp,heq]) (.bool _) (by cases a<;>cases b<;>exact e)
 · exact .same H (v:=.bool (!(a==b))) (by simp only [execOp,ho,hx,hy];simp [hg,binOp,heq]) (.bool _) (by cases a<;>cases b<;>exact e)
theorem adS {nk:Nat}{v v':Value}{b:Bool}(hv:VR φ v v') (h:kH nk v=some b):kH nk v'=some b:=by
 unfold kH at h
 split at h<;>cases h<;>cases hv<;>rfl
theorem aj7 {x:Operand}{t:TypeId}(ho:o.op= .unOp .neg t x) (H:HR P w0 φ h w) (hv:LR φ vs ([x].map ρ)) (e:Tf vs h k=true):PR P w0 φ h ((execOp ρ o).run P w) fun v h'=>k v h'=true:=by
 obtain⟨p,ar,e1⟩:=fy e;clear e;subst ar;have e:=e1;clear e1
 obtain⟨p',hp,hr⟩:=hv.one
 simp at hp;subst hp
 obtain⟨kd,n,ar,e1⟩:=og e;clear e;subst ar;have e:=e1;clear e1
 have hz:Int.sub (.ofNat 0) n= -n:=by show(0:Int)-n= -n;omega
 rw [ph,Cr,hz]at e
 exact .same H (by simp only [execOp,ho,hr.iZ];simp [Op.unary,Op.intArith]) (.int _ _) e
theorem aj8 {x:Operand}{t:TypeId}(ho:o.op= .unOp .not t x) (H:HR P w0 φ h w) (hv:LR φ vs ([x].map ρ)) (e:Tg vs h k=true):PR P w0 φ h ((execOp ρ o).run P w) fun v h'=>k v h'=true:=by
 obtain⟨p,ar,e1⟩:=fy e;clear e;subst ar;have e:=e1;clear e1
 obtain⟨p',hp,hr⟩:=hv.one
 simp at hp;subst hp
 obtain⟨b,ar,e1⟩:=E4 e;clear e;subst ar;have e:=e1;clear e1
 rw [jV]at e
 exact .same H (by simp only [execOp,ho,hr.sv];simp [Op.unary]) (.bool _) e
theorem aj9 {x:Operand}{s t:TypeId}{k1 k2:IntKind}(ho:o.op= .convert s t x) (hs:P.underlying s=some (.int k1)) (ht:P.underlying t=some (.int k2)) (H:HR P w0 φ h w) (hv:LR φ vs ([x].map ρ)) (e:Th k2 vs h k=true):PR P w0 φ h ((execOp ρ o).run P w) fun v h'=>k v h'=true:=by
 obtain⟨p,ar,e1⟩:=fy e;clear e;subst ar;have e:=e1;clear e1
 obtain⟨p',hp,hr⟩:=hv.one
 simp at hp;subst hp
 obtain⟨kd,n,ar,e1⟩:=og e;clear e;subst ar;have e:=e1;clear e1
 rw [ph,Cr]at e
 exact .same H (by simp only [execOp,ho,hr.iZ];simp [convert,run_underlying hs,run_underlying ht,Conv.intToInt]) (.int _ _) e
theorem aaC {fn:Fn}{first cr:Array Operand}(ho:o.op= .makeFunc fn first cr) (hf:∀φ,we φ fn fn) (H:HR P w0 φ h w) (hv:LR φ vs ((first.toList++cr.toList).map ρ)) (e:Ti fn first.size vs h k=true):PR P w0 φ h ((execOp ρ o).run P w) fun v h'=>k v h'=true:=by
 obtain⟨e,h1⟩:=Lz _ e
 obtain⟨e,_⟩:=LA _ e
 refine .same H (v':=.func fn (first.map ρ) (cr.map ρ)) ?_ (.func _ _ _ _ _ _ (hf φ) ?_ ?_) e
 · simp [execOp,ho,Instr.makeFunc]
 · have:=hv.take first.size
   simpa [List.take_append]using this
 · have:=hv.drop first.size
   simpa [List.drop_append]using this
theorem akc {t:TypeId}{x:Operand}(ho:o.op= .makeInterface t x) (hc:P.concrete t=true) (H:HR P w0 φ h w) (hv:LR φ vs ([x].map ρ)) (e:Tj t vs h k=true):PR P w0 φ h ((execOp ρ o).run P w) fun v h'=>k v h'=true:=by
 obtain⟨p,ar,e1⟩:=fy e;clear e;subst ar;have e:=e1;clear e1
 obtain⟨p',hp,hr⟩:=hv.one
 simp at hp;subst hp
 exact .same H (by simp [execOp,ho,run_makeInterface w t (ρ x) hc]) (.iface _ _ _ hr) e
theorem akd {t:TypeId}(ho:o.op= .makeMap t none) (H:HR P w0 φ h w) (e:abr vs h k=true):PR P w0 φ h ((execOp ρ o).run P w) fun v h'=>k v h'=true:=by
 obtain⟨_,e⟩:=wj e
 obtain⟨bj,h1,h2⟩:=wi e
 obtain⟨g1,g2⟩:=H.newAt (f:=h.nx) (o:=.map [] 0) (o':=.map #[] 0) (d:=0) (n:=0) (h':=⟨h.nx+1,bj⟩) (H.fresh _ (Nat.le_refl _)) h1.1 (fun g hg _=>h1.2 g hg) (fun g hg=>H.fresh g (by simp only at hg;omega)) (fun g hg=>by rw [h1.2 g (by simp only at hg;omega)];exact H.top g (by simp only at hg;omega)) (by simp) _ (Nat.le_refl _) (.map _ _ _ _ _ .nil)
 refine⟨.map (some w.heap.size),_,_,_,_,.inl ?_,h2,g2,by simp,.map _ _ (by simp [aO.put]) (fun b d n hl=> ?_),g1⟩
 · simp [execOp,ho,Instr.makeMap,World.alloc_eq]
 · simp only [aO.jG]at hl;cases hl;rfl
theorem ake {x:Operand}{i:Nat}(ho:o.op= .extract x i) (H:HR P w0 φ h w) (hv:LR φ vs ([x].map ρ)) (e:Tk i vs h k=true):PR P w0 φ h ((execOp ρ o).run P w) fun v h'=>k v h'=true:=by
 obtain⟨p,ar,e1⟩:=fy e;clear e;subst ar;have e:=e1;clear e1
 obtain⟨p',hp,hr⟩:=hv.one
 simp at hp;subst hp
 obtain⟨a,ar,e1⟩:=amh e;clear e;subst ar;have e:=e1;clear e1
 obtain⟨a',hx,hl⟩:=hr.acZ
 obtain⟨v,g1,g2⟩:=FL _ e
 obtain⟨v',g3,g4⟩:=LR.get hl _ _ g1
 have F8:a'[i]? =some v':=by simpa using g3
 exact .same H (by simp [execOp,ho,hx,Instr.extract,F8]) g4 g2
theorem me {b:Builtin}{c:Call}(ho:o.op= .call c) (hc:c.callee= .builtin b) :
 (execOp ρ o).run P w=(builtin b c.argTypes o.type (c.args.map fun | .const _=>true | _=>false) (c.args.map ρ)).run P w:=by
 simp [execOp,ho,resolve,hc,invoke]
 rfl
theorem akq {c:Call}{x:Operand}{t e':TypeId}(ho:o.op= .call c) (hc:c.callee= .builtin .len) (ha:c.args= #[x]) (ht:c.argTypes[0]? =some t) (hu:P.underlying t=some (.slice e')) (H:HR P w0 φ h w) (hv:LR φ vs ([x].map ρ)) (e:Tl vs h k=true):PR P w0 φ h ((execOp ρ o).run P w) fun v h'=>k v h'=true:=by
 obtain⟨p,ar,e1⟩:=fy e;clear e;subst ar;have e:=e1;clear e1
 obtain⟨p',hp,hr⟩:=hv.one
 simp at hp;subst hp
 rcases qU e with⟨l,c',ar,e1⟩ | ⟨a,l,c',ar,e1⟩<;>(clear e;subst ar)
 · obtain⟨rfl,rfl,hx⟩:=hr.sw
   refine .same H ?_ (.int _ _) e1
   rw [me ho hc]
   simp [builtin,Builtin.len_,ha,ht,hx,run_underlying hu,goInt]
 · obtain⟨a',c'',hx,_,_⟩:=hr.pW
   refine .same H ?_ (.int _ _) e1
   rw [me ho hc]
   simp [builtin,Builtin.len_,ha,ht,hx,run_underlying hu,goInt]
theorem akp {c:Call}{x:Operand}{t:TypeId}(ho:o.op= .call c) (hc:c.callee= .builtin .len) (ha:c.args= #[x]) (ht:c.argTypes[0]? =some t) (hu:P.underlying t=some .string) (H:HR P w0 φ h w) (hv:LR φ vs ([x].map ρ)) (e:Tm vs h k=true):PR P w0 φ h ((execOp ρ o).run P w) fun v h'=>k v h'=true:=by
 obtain⟨p,ar,e1⟩:=fy e;clear e;subst ar;have e:=e1;clear e1
 obtain⟨p',hp,hr⟩:=hv.one
 simp at hp;subst hp
 obtain⟨s,ar,e1⟩:=mf e;clear e;subst ar;have e:=e1;clear e1
 rw [cz]at e
 refine .same H ?_ (.int _ _) e
 rw [me ho hc]
 simp [builtin,Builtin.len_,ha,ht,hr.kV,run_underlying hu,goInt]
theorem ER.length:∀{l:List (Value×Value×Nat)}{l':List MapEntry},ER φ l l'→l.length=l'.length
 | _,_,.nil=>rfl
 | _,_,.cons _ _ _ _ _ _ _ _ _ h=>by simp [ER.length h]
theorem HR.RU (H:HR P w0 φ h w){r r':Nat}{es:List (Value×Value×Nat)}{cl:Nat}(hs:φ r≠none) (hr:∀b d n,φ r=some (.live b d n)→r'=b) (ho:h.ob.get r=some (.map es cl)) :
 ∃d n dz,φ r=some (.live r' d n)∧w.heap[r']? =some (.map dz cl)∧ER φ es dz.toList∧w0.heap.size≤r':=by
 obtain⟨b,d,n,o',h1,h2,h3,h4⟩:=H.live hs ho
 obtain rfl:=hr b d n h1
 cases h3 with
 | map _ _ _ dz cl he=>exact⟨d,n,dz,h1,h2,he,h4 rfl⟩
theorem akr {c:Call}{x:Operand}{t k' e':TypeId}(ho:o.op= .call c) (hc:c.callee= .builtin .len) (ha:c.args= #[x]) (ht:c.argTypes[0]? =some t) (hu:P.underlying t=some (.map k' e')) (H:HR P w0 φ h w) (hv:LR φ vs ([x].map ρ)) (e:Tn vs h k=true):PR P w0 φ h ((execOp ρ o).run P w) fun v h'=>k v h'=true:=by
 obtain⟨p,ar,e1⟩:=fy e;clear e;subst ar;have e:=e1;clear e1
 obtain⟨p',hp,hr⟩:=hv.one
 simp at hp;subst hp
 rcases Kq e with⟨ar,e1⟩ | ⟨r,ar,e1⟩<;>(clear e;subst ar)
 · refine .same H ?_ (.int _ _) e1
   rw [me ho hc]
   simp [builtin,Builtin.len_,ha,ht,hr.RT,run_underlying hu,goInt]
 · obtain⟨r',hx,hs,o7⟩:=hr.Kr
   obtain⟨es,cl,g1,g2⟩:=yX e1
   obtain⟨d,n,dz,_,q2,q3,_⟩:=H.RU hs o7 g1
   rw [cz]at g2
   refine .same H ?_ (.int _ _) g2
   rw [me ho hc]
   have:=q3.length
   simp [builtin,Builtin.len_,ha,ht,hx,run_underlying hu,goInt,getObj,Sem.run,q2,this]
theorem aks {c:Call}{x:Operand}{t e':TypeId}{n:Nat}(ho:o.op= .call c) (hc:c.callee= .builtin .len) (ha:c.args= #[x]) (ht:c.argTypes[0]? =some t) (hu:P.underlying t=some (.array n e')) (H:HR P w0 φ h w) (e:To n vs h k=true):PR P w0 φ h ((execOp ρ o).run P w) fun v h'=>k v h'=true:=by
 obtain⟨p,ar,e1⟩:=fy e;clear e;subst ar;have e:=e1;clear e1
 refine .same H ?_ (.int _ _) e
 rw [me ho hc]
 simp only [builtin,Builtin.len_,ha,ht]
 generalize ρ x=X
 cases X<;>simp [run_underlying hu,goInt]
end
end Go.Ve
