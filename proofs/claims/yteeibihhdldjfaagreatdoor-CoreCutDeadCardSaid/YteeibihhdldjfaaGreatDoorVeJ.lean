/- Part 10: more operations, the rest: pointers as unsafe.Pointer, a string's bytes appended, unsafe.String, a range over a map. No condition. And more. -/
import Derived.Test.YteeibihhdldjfaaGreatDoorVeI
import Derived.Lib.UnsafeStr
set_option linter.unusedVariables false
set_option linter.unusedSimpArgs false
namespace Go.Ve
open Go.RowKit
section
variable {P:Program}{w0 w:World}{φ:aY}{h:AH}{ρ:Operand→Value}{o:Oper}{vs:List Value}{k:KV}
theorem VR.axk {v'}(h:VR φ (.pointer none) v'):v'= .pointer none:=by cases h;rfl
theorem HR.shape (H:HR P w0 φ h w){a a':Addr}{lo hi:Nat}{ty:TypeId}{rw:Bool}{c:NT Z}(hs:φ a.block≠none)(ha:AtR φ a a')(ho:h.ob.get a.block=some (.cells lo hi ty rw c)):
 ∃d n,w.shape? a'.block=some (ty,n)∧d≤lo∧(lo<hi→hi-d≤n)∧a'.off+d=a.off∧a'.spot=none:=by
 obtain⟨b,d,arr,fr,v1,v2,v3,v4,v5,v6,v7,_⟩:=H.at hs ha ho;refine⟨d,arr.size,by simp [World.shape?,v2,v5],v6,fun cy=>?_,v3,v4⟩;obtain⟨_,_,_,g,_⟩:=v7 (hi-1) (by omega) (by omega);have:=(Array.getElem?_eq_some_iff.1 g).1;omega
theorem avt {x s t te j}(ho:o.op= .convert s t x)(hs:P.underlying s=some (.pointer te))(ht:P.underlying t=some .unsafePointer)(hi:P.info? te=some j)(hj:j.size≠0)(H:HR P w0 φ h w)(hv:LR φ vs ([x].map ρ))(e:akv vs h k=true):PR P w0 φ h ((execOp ρ o).run P w) fun v h'=>k v h'=true:=by
 obtain⟨p,aM,e1⟩:=iU e;clear e;subst aM;have e:=e1;clear e1;obtain⟨p',hp,hr⟩:=hv.one;simp at hp;subst hp;obtain⟨a,aM,e1⟩:=qY e;clear e;subst aM;obtain⟨a',hx,hf,eU⟩:=hr.oZ;obtain⟨lo,fx,ty,tu,c,g1,e2⟩:=AM e1;obtain⟨g2,e3⟩:=dX e2;simp only [zae]at g2;have g3:=zaa g2.1;have g4:a.off<fx:=zaa g2.2;obtain⟨d,n,q1,q2,q3,q4,q5⟩:=H.shape hf eU g1;have q3:=q3 (by omega);refine .same H ?_ (.ptr ⟨a.block,a.off,none⟩ _ hf eU) e3;simp only [execOp,ho,hx];simp [Lib.run_to_unsafe (P:=P) w a' hs ht hi hj q1 (by omega)]
theorem axl {fits d e c c' off n}(hc:c≤c')(h:rowAt P fits d e c off n=true):rowAt P fits d e c' off n=true:=by
 cases d with
 | zero=>cases h
 | succ d=>
  unfold rowAt at h ⊢;simp only at h ⊢;split at h
  · cases h
  · rename_i hs;rw [if_neg hs];simp only [zbi,zae,zap]at h ⊢;rcases h with⟨⟨h1,h2⟩,h3⟩ | ⟨h1,h2⟩
    · exact .inl ⟨⟨h1,by omega⟩,h3⟩
    · exact .inr ⟨by omega,h2⟩
theorem alD:∀ {d e c c' off u n},c≤c'→liesAt P d e c off u n=true→liesAt P d e c' off u n=true
 | 0,_,_,_,_,_,_,_,h=>by cases h
 | d+1,e,c,c',off,u,n,hc,h=>by
  unfold liesAt at h ⊢;rw [zbi]at h ⊢;rcases h with h | h
  · exact .inl (axl hc h)
  · refine .inr ?_;split at h
    · exact alD hc h
    · cases h
theorem alE {ty hi}:∀{l:List (TypeId×Nat)},Tr ty hi l=true→∃n,(ty,n)∈l∧n≤hi
 | [],h=>by cases h
 | (t,n)::l,h=>by
  unfold Tr at h;cases hb:Nat.beq t ty&&Nat.ble n hi with
  | true=>
   rw [zae]at hb;obtain rfl:=zar hb.1;exact⟨n,.head _,zaa hb.2⟩
  | false=>
   rw [hb]at h;obtain⟨m,h1,h2⟩:=alE (l:=l) (by simpa using h);exact⟨m,.tail _ h1,h2⟩
theorem axm {u t n}(h:(t,n)∈TL P u):n=P.cellsOf t∧n≠0∧liesAt P P.depth t 1 0 u 1=true:=by
 unfold TL at h;obtain⟨t',h1,h2⟩:=List.mem_map.1 h;cases h2;have h3:=(List.mem_filter.1 h1).2;simp only [zae,zbc,beq_eq_false_iff_ne]at h3;exact⟨rfl,h3.1.2,h3.2⟩
theorem avu {x s t u j}(ho:o.op= .convert s t x)(hs:P.underlying s=some .unsafePointer)(ht:P.underlying t=some (.pointer u))(hi:P.info? u=some j)(H:HR P w0 φ h w)(hv:LR φ vs ([x].map ρ))(e:akw (TL P u) vs h k=true):PR P w0 φ h ((execOp ρ o).run P w) fun v h'=>k v h'=true:=by
 obtain⟨p,aM,e1⟩:=iU e;clear e;subst aM;have e:=e1;clear e1;obtain⟨p',hp,hr⟩:=hv.one;simp at hp;subst hp;obtain⟨a,aM,e1⟩:=qY e;clear e;subst aM;obtain⟨a',hx,hf,eU⟩:=hr.oZ;obtain⟨lo,fx,ty,tu,c,g1,e2⟩:=AM e1;obtain⟨g2,e3⟩:=dX e2;simp only [zae]at g2;obtain⟨⟨g2,g3⟩,g4⟩:=g2;have g2:lo=0:=zar g2;have g3:a.off=0:=zar g3;obtain⟨m,g5,g6⟩:=alE g4;obtain⟨g7,g8,g9⟩:=axm g5;obtain⟨d,n,q1,q2,q3,q4,q5⟩:=H.shape hf eU g1;have q3:=q3 (by omega);have alF:a'.off=0:=by omega
 refine .same H ?_ (.ptr ⟨a.block,a.off,none⟩ _ hf eU) e3;simp only [execOp,ho,hx];have hn:P.cellsOf ty≤n:=by omega
 have h1:1≤n / P.cellsOf ty:=(Nat.one_le_div_iff (by omega)).2 hn;simp [Lib.run_from_unsafe (P:=P) w a' hs ht hi q1 (by rw [alF];exact alD h1 g9)]
theorem axn {x y}(h:Ts x y=true):∃a b,x= .pointer (some a)∧y= .pointer (some b)∧a.block=b.block∧a.off=b.off:=by
 unfold Ts at h;split at h
 · rename_i a b;rw [zae]at h;exact⟨a,b,rfl,rfl,zar h.1,zar h.2⟩
 · cases h
theorem ajz {op t u te j x y ng}(ho:o.op= .binOp op t x y u)(bK:(op= .eql∧ng=false)∨(op= .neq∧ng=true))(hu:P.underlying t=some (.pointer te))(hi:P.info? te=some j)(H:HR P w0 φ h w)(hv:LR φ vs ([x,y].map ρ))(e:aky ng vs h k=true):PR P w0 φ h ((execOp ρ o).run P w) fun v h'=>k v h'=true:=by
 obtain⟨p,q,aM,e1⟩:=lx e;clear e;subst aM;cases Fv:Ts p q with
 | false=>
  rw [Fv,zak]at e1;exact w8 (nk:=0) ho bK hu rfl (fun h=>by cases h) H hv e1
 | true=>
  rw [Fv,zam]at e1;obtain⟨a,b,axo,axp,hb,alF⟩:=axn Fv;subst axo axp;obtain⟨p',q',hp,hr,hq⟩:=hv.two;simp at hp;obtain⟨e2,e3⟩:=hp;subst e2 e3;obtain⟨a',hx,hf,eU⟩:=hr.oZ;obtain⟨b',hy,hf',Ma⟩:=hq.oZ;obtain⟨a2,aM,e2⟩:=qY e1;cases aM;obtain⟨ob,g1,e3⟩:=Fu e2;obtain⟨B,d,n,o',m1,m2,m3,m4⟩:=H.live hf g1;obtain⟨c1,c2,c3⟩:=eU B d n m1;obtain⟨d1,d2,d3⟩:=Ma B d n (by rw [←hb];exact m1)
  have uP:a'=b':=by
   cases a';cases b';simp only at c1 c2 c3 d1 d2 d3;subst c1 c3 d1 d3
   congr 1
   omega
  subst uP;rw [lA]at e3;have hg:=alG (P:=P) (w:=w) (nk:=0) (op:=op) (t:=t) (X:=x) (Y:=y) (a:=.pointer (some a')) (b:=.pointer (some a')) rfl rfl (fun h=>by cases h);refine .same H ?_ (.bool _) e3;simp only [execOp,ho,hx,hy];rcases bK with⟨rfl,rfl⟩ | ⟨rfl,rfl⟩
  · simp [hg,run_eql_ptr_same (P:=P) w a' hu hi]
  · simp [hg,Lib.run_neq_ptr_same (P:=P) w a' hu hi]
theorem avP {c x}(ho:o.op= .call c)(hc:c.callee= .builtin .unsafeSliceData)(ha:c.args= #[x])(H:HR P w0 φ h w)(hv:LR φ vs ([x].map ρ))(e:akz vs h k=true):PR P w0 φ h ((execOp ρ o).run P w) fun v h'=>k v h'=true:=by
 obtain⟨p,aM,e1⟩:=iU e;clear e;subst aM;have e:=e1;clear e1;obtain⟨p',hp,hr⟩:=hv.one;simp at hp;subst hp;rcases wZ e with⟨l,c',aM,e1⟩ | ⟨a,l,c',aM,e1⟩<;>(clear e;subst aM)
 · obtain⟨rfl,rfl,hx⟩:=hr.yj;refine .same H ?_ .SD e1;rw [qj ho hc];simp [builtin,ha,hx,Lib.run_unsafeSliceData_nil]
 · obtain⟨a',eX,hx,hs,lO⟩:=hr.vD;obtain⟨h1,e2⟩:=dX e1;have h1:1≤l:=zaa h1
   have eU:AtR φ a a'∧eX≠0:=by
    rcases lO with⟨_,h2,h3,h4⟩ | ⟨_,_,_,h3,h4⟩
    · exact⟨h4 (by omega),by omega⟩
    · exact⟨(h4 (by omega)).1,by omega⟩
   refine .same H ?_ (.ptr ⟨a.block,a.off,none⟩ _ hs eU.1) e2;rw [qj ho hc];simp [builtin,ha,hx,Lib.run_unsafeSliceData_row (P:=P) w _ _ a' l eX eU.2]
theorem alH:∀ {l k},akt l k=true→∃m:List UInt8,l=m.map (fun c=>Value.int .u8 c.toNat)∧k m=true
 | [],k,h=>⟨[],rfl,h⟩
 | v::l,k,h=>by
  obtain⟨kd,n,aM,e1⟩:=tt (show pN v _=true from h);subst aM;cases n with
  | negSucc n=>cases e1
  | ofNat n=>
   obtain⟨e2,e3⟩:=dX (show iff (jE kd .u8&&Nat.ble (Nat.succ n) 256) _=true from e1);rw [zae]at e2;obtain rfl:=uO e2.1;have cy:n<256:=zaa e2.2;obtain⟨m,h1,h2⟩:=alH (l:=l) e3;refine⟨UInt8.ofNat n::m,?_,h2⟩;rw [h1];have:(UInt8.ofNat n).toNat=n:=by simp [UInt8.toNat_ofNat'];omega
   simp [this]
theorem axq {tH ty t}(h0:tH[0]? =some t)(z:Option Addr)(kd:IntKind):
 (Builtin.unsafeString_ tH ty #[.pointer z,.int kd 0]).run P w= .ok (.string .empty) w:=by
 have hm:IntKind.i64.max=9223372036854775807:=rfl;cases z<;>refine(Sem.run_bind P w (asInt (.int kd 0)) _).trans ?_<;>simp [h0,asInt,asIntOf,hm]
theorem axr {tH ty t e}(h0:tH[0]? =some t)(hp:P.underlying t=some (.pointer e))(hc:P.cellsOf e=1)(a:Addr)(cells:Nat)(hsh:w.shape? a.block=some (e,cells))(l:List UInt8)(hl:l.length≠0)(hn:a.off+l.length≤cells)(h63:l.length≤1048576)(kd:IntKind)
 (uX:∀j x,l[j]? =some x→w.cell? (a.add j)=some (.int .u8 x.toNat)):
 (Builtin.unsafeString_ tH ty #[.pointer (some a),.int kd l.length]).run P w= .ok (.string ⟨l.toArray⟩) (w.freeze a l.length):=by
 have Cz:=Lib.run_loadBytes (P:=P) w l a .empty uX
 have axs:liesAt P P.depth e (cells / P.cellsOf e) a.off e l.length=true:=by
  have hd:P.depth=(2*(P.types.size+Made.depth)+1)+1:=rfl;rw [hd];simp only [liesAt,zbi];left;rw [hd];have h1:a.off+l.length≤cells / P.cellsOf e:=by rw [hc];simpa using hn
  rw [hc]at h1;simp at h1;simp [rowAt,hc,h1,sameLayout,Nat.mod_one]
 have TO:¬(9223372036854775807:Int)<(l.length:Int):=by omega
 have alI:IntKind.i64.max=9223372036854775807:=rfl;have Ib:¬(l.length:Int)<0:=by omega
 have kS:l≠[]:=fun e=>hl (by simp [e])
 refine(Sem.run_bind P w (asInt (.int kd l.length)) _).trans ?_;simp [h0,asInt,asIntOf,alI,TO,Ib,kS,variablesAt,hsh,elemOf,run_underlying hp,axs,Cz]
theorem axt {ty n a}(e:akA ty n h k a=true):∃lo hi c m bU,h.ob.get a.block=some (.cells lo hi ty true c)∧lo≤a.off∧a.off+n≤hi∧n≤1048576∧m.length=n∧
 (∀j x,m[j]? =some x→c.get (a.off+j)=some (.int .u8 (UInt8.toNat x)))∧h.ob.mU a.block (some (.cells lo hi ty false c)) bU∧k (.string ⟨⟨m⟩⟩) ⟨h.nx,bU⟩=true:=by
 cases a with
 | mk b off sp=>
  obtain⟨lo,hi,dY,tu,c,g1,e2⟩:=AM (show rf h b _=true from e);obtain⟨g2,e3⟩:=dX e2;simp only [zae]at g2;obtain⟨⟨⟨⟨g2,g3⟩,g4⟩,g5⟩,g6⟩:=g2;subst g2;obtain rfl:=zar g3;obtain⟨l,e4,g7,g8⟩:=TJ _ e3;obtain⟨m,rfl,e5⟩:=alH e4;obtain⟨bU,g9,e6⟩:=uQ e5;refine⟨lo,hi,c,m,bU,g1,zaa g4,zaa g5,zaa g6,by simpa using g7,fun j x hj=>g8 j _ (by simp [hj]),g9,e6⟩
theorem avQ {c x y t u}(ho:o.op= .call c)(hc:c.callee= .builtin .unsafeString)(ha:c.args= #[x,y])(h0:c.argTypes[0]? =some t)(hu:P.underlying t=some (.pointer u))(h1:P.cellsOf u=1)(H:HR P w0 φ h w)(hv:LR φ vs ([x,y].map ρ))(e:akB u vs h k=true):PR P w0 φ h ((execOp ρ o).run P w) fun v h'=>k v h'=true:=by
 obtain⟨p,q,aM,e1⟩:=lx e;clear e;subst aM;obtain⟨p',q',hp,hr,hq⟩:=hv.two;simp at hp;obtain⟨e2,e3⟩:=hp;subst e2 e3;obtain⟨kd,n,aM,e2⟩:=Ai e1;subst aM;clear e1;have hn:=hq.lj;have alI:IntKind.i64.max=9223372036854775807:=rfl;split at e2
 · rename_i q
   have hpx:∃z,ρ x= .pointer z:=by
    cases q with
    | none=>exact⟨_,hr.axk⟩
    | some a=>obtain⟨a',hx,_⟩:=hr.oZ;exact⟨_,hx⟩
   obtain⟨z,hz⟩:=hpx
   by_cases tw:n=0
   · subst tw;rw [qh rfl,zam]at e2;refine .same H ?_ (.str _) e2;rw [qj ho hc];have TP:=axq (P:=P) (w:=w) (ty:=o.type) h0 z kd;simp [builtin,ha,hz,hn,TP];rfl
   · rw [jt tw,zak]at e2;cases q with
     | none=>cases e2
     | some a=>
      obtain⟨a',hx,hf,eU⟩:=hr.oZ;obtain⟨lo,hi,cc,m,bU,g1,g2,g3,g4,g5,g6,g7,g8⟩:=axt e2;subst g5;obtain⟨b,d,arr,fr,v1,v2,v3,v4,v5,v6,v7,v8,v9⟩:=H.at hf eU g1;obtain rfl:=v9 rfl
      have je:a'.off+m.length≤arr.size:=by
       obtain⟨_,_,_,g,_⟩:=v7 (a.off+m.length-1) (by omega) (by omega);have:=(Array.getElem?_eq_some_iff.1 g).1;omega
      have uX:∀j x,m[j]? =some x→w.cell? (a'.add j)=some (.int .u8 x.toNat):=fun j x hj=>by
       have KX:=(List.getElem?_eq_some_iff.1 hj).1;obtain⟨v',q1,q2⟩:=H.cell hf eU g1 (j:=j) (by omega) (by omega) (g6 j x hj);rw [q1,q2.lj]
      have dT:=axr (P:=P) (w:=w) (ty:=o.type) h0 hu h1 a' arr.size (by simp [World.shape?,v2,v5]) m tw je g4 kd uX
      have se:(w.freeze a' m.length)={w with heap:=w.heap.modify a'.block fun
       | .cells c elem (lo,hi)=>.cells c elem (if lo==hi then(a'.off,a'.off+m.length)else(min lo a'.off,max hi (a'.off+m.length)))
       | o=>o}:=by unfold World.freeze;rw [if_neg tw];rfl
      refine⟨_,w.freeze a' m.length,_,_,φ,.inl ?_,g8,Ext.refl _ _,zad _,.str _,?_⟩
      · rw [qj ho hc];simp only [builtin,ha,List.map_toArray,zaW,List.map_nil,hx,hn];rw [show(Int.ofNat m.length)=(m.length:Int)from rfl];simp [dT]
      · refine H.nK (h':=⟨h.nx,bU⟩) (o':=.cells arr u (a'.off,a'.off+m.length)) v1 g7 rfl (.cells _ _ _ _ _ _ _ _ _ (fun h=>by cases h) v6 rfl v7) (v8 rfl) ?_ (fun k hk=>?_) ?_ ?_ ?_ ?_
        · rw [se];simp [zbA,v2,v5]
        · rw [se];simp only [zbA];rw [if_neg (by rw [v2];exact fun e=>hk e.symm)]
        · rw [se];simp
        · rw [se]
        · rw [se]
        · rw [se]
 · cases e2
theorem alJ:∀(l:List UInt8){k:ZZE→Bool},byK l k=true→k (l.map fun c=>.int .u8 (.ofNat c.toNat))=true
 | [],k,h=>h
 | c::l,k,h=>by
  have h':fN c.toNat (fun n=>byK l fun l=>k (.int .u8 (.ofNat n)::l))=true:=h;rw [dG]at h';exact alJ l h'
theorem alK (φ:aY):∀l:List UInt8,LR φ (l.map fun c=>.int .u8 (.ofNat c.toNat)) (l.map fun c=>.int .u8 (.ofNat c.toNat))
 | []=>.nil
 | c::l=>.cons _ _ _ _ (.int _ _) (alK φ l)
theorem avO {c s x t u e' i z}(ho:o.op= .call c)(hc:c.callee= .builtin .append)(ha:c.args= #[s,x])(h0:c.argTypes[0]? =some t)(h1:c.argTypes[1]? =some u)(ht:P.underlying t=some (.slice e'))(hu:P.underlying u=some .string)
 (hi:P.info? e'=some i) (hz:i.zero=some z) (ES:i.bytes≤65536) (r7:z.cells.size=i.size) (je:i.size=1) (H:HR P w0 φ h w) (hv:LR φ vs ([s,x].map ρ)) (e:aku e' z.cells.toList vs h k=true):PR P w0 φ h ((execOp ρ o).run P w) fun v h'=>k v h'=true:=by
 obtain⟨p,q,aM,e1⟩:=lx e;clear e;subst aM;have e:=e1;clear e1;obtain⟨p',q',hp,hr,hq⟩:=hv.two;simp at hp;obtain⟨e1,e2⟩:=hp;subst e1 e2
 have dT:∀{v':Z}{w':World},(Builtin.append_ c.argTypes o.type #[ρ s,ρ x]).run P w= .ok v' w'→(execOp ρ o).run P w= .ok (.value v') w':=by
  intro v' w' hh;rw [qj ho hc];simp [builtin,ha,hh]
 obtain⟨str,aM,e1⟩:=ql e;subst aM;have hx:=hq.od;have e2:=alJ _ e1;rw [dG]at e2;obtain⟨_,e3⟩:=dX e2;refine alL (p:=p) (p':=ρ s) (q':=ρ x) (n:=str.size) (xs:=str.data.toList.map fun c=>.int .u8 (.ofNat c.toNat)) dT h0 h1 ht (eu:=0) (.inr hu) hi hz ES r7 (by omega) H hr (by rw [je];simp) (alK φ _) ?_ (fun w' _=>?_) ?_
 · rw [hx];simp [Builtin.lenOf]
 · rw [hx];simp only [Builtin.firstCells,Sem.run_pure]
   congr 1
   apply za8;simp
 · rw [je];have hl:(str.data.toList.map fun c=>Value.int .u8 (.ofNat c.toNat)).length=str.size:=by simp
   rw [hl]at e3;exact e3
theorem acN:∀(l:List Nat) (n:Nat),yx l n=l.contains n
 | [],n=>rfl
 | m::l,n=>by
  have h1:yx (m::l) n=bif Nat.beq m n then true else yx l n:=rfl
  rw [h1,acN l n,List.contains_cons]
  by_cases h:m=n
  · subst h;simp [qh]
  · rw [jt h];simp [Ne.symm h]
theorem alM:∀(l:List Nat){n:Nat}{k:List Nat→Bool},LN l n k=true→k (l++[n])=true
 | [],n,k,h=>h
 | x::l,n,k,h=>alM l (show LN l n (fun l'=>k (x::l'))=true from h)
theorem acO {since seen}:∀(es:List (Z×Z×Nat)){k:List (Z×Z×Nat)→Bool},AE es since seen k=true→(∀e∈es,e.2.2<since)∧k (es.filter fun e=> !seen.contains e.2.2)=true
 | [],k,h=>⟨fun e he=>(by cases he),h⟩
 | e::es,k,h=>by
  obtain⟨h1,h2⟩:=dX (show iff (Nat.ble (Nat.succ e.2.2) since) (bif yx seen e.2.2 then AE es since seen k else AE es since seen fun l=>k (e::l))=true from h);have h1:e.2.2<since:=zaa h1;rw [acN]at h2;cases hm:seen.contains e.2.2 with
  | true=>
   rw [hm,zam]at h2;obtain⟨h3,h4⟩:=acO es h2;refine⟨fun x hx=>?_,?_⟩
   · rcases List.mem_cons.1 hx with rfl | hx
     · exact h1
     · exact h3 x hx
   · rw [List.filter_cons_of_neg (by rw [hm];simp)];exact h4
  | false=>
   rw [hm,zak]at h2;obtain⟨h3,h4⟩:=acO es h2;refine⟨fun x hx=>?_,?_⟩
   · rcases List.mem_cons.1 hx with rfl | hx
     · exact h1
     · exact h3 x hx
   · rw [List.filter_cons_of_pos (by rw [hm];rfl)];exact h4
theorem alN {go}:∀{l:List (Z×Z×Nat)},Cp go l=true→∀x∈l,go x.1 x.2.1 x.2.2=true
 | [],_,x,hx=>by cases hx
 | [(a,v,n)],h,x,hx=>by
  rcases List.mem_cons.1 hx with rfl | hx
  · exact h
  · cases hx
 | (a,v,n)::y::l,h,x,hx=>by
  obtain⟨h1,h2⟩:=dX (show iff (go a v n) (Cp go (y::l))=true from h);rcases List.mem_cons.1 hx with rfl | hx
  · exact h1
  · exact alN h2 x hx
theorem ER.filter {φ:aY}{p:Nat→Bool}:∀{l:List (Z×Z×Nat)}{l':List MapEntry},ER φ l l'→ER φ (l.filter fun e=>p e.2.2) (l'.filter fun e=>p e.born)
 | _,_,.nil=>.nil
 | _,_,.cons a v b e l l' h1 h2 h3 h4=>by
  have ih:=ER.filter (p:=p) h4;cases hp:p b with
  | true=>
   rw [List.filter_cons_of_pos (by simpa using hp),List.filter_cons_of_pos (by rw [h3];exact hp)];exact .cons _ _ _ _ _ _ h1 h2 h3 ih
  | false=>
   rw [List.filter_cons_of_neg (by simpa using hp),List.filter_cons_of_neg (by rw [h3];simpa using hp)];exact ih
theorem ER.mem {φ}:∀{l:List (Z×Z×Nat)}{l':List MapEntry},ER φ l l'→∀e∈l',∃x∈l,VR φ x.1 e.key∧VR φ x.2.1 e.val∧e.born=x.2.2
 | _,_,.nil,e,he=>by cases he
 | _,_,.cons a v b e l l' h1 h2 h3 h4,e',he=>by
  rcases List.mem_cons.1 he with rfl | he
  · exact⟨_,.head _,h1,h2,h3⟩
  · obtain⟨x,q1,q2⟩:=ER.mem h4 e' he;exact⟨x,.tail _ q1,q2⟩
theorem mapOf (H:HR P w0 φ h w){r r':Nat}{es:List (Z×Z×Nat)}{cl:Nat}(hf:φ r≠none)(hr:∀b d n,φ r=some (.live b d n)→r'=b)(ho:h.ob.get r=some (.map es cl)):∃eJ,w.heap[r']? =some (.map eJ cl)∧ER φ es eJ.toList:=by
 obtain⟨b,d,n,o',m1,m2,m3,m4⟩:=H.live hf ho;obtain rfl:=hr b d n m1;cases m3 with
 | map _ _ _ eJ _ he=>exact⟨eJ,m2,he⟩
theorem avy {x t kt et}(ho:o.op= .range t x)(hu:P.underlying t=some (.map kt et))(H:HR P w0 φ h w)(hv:LR φ vs ([x].map ρ))(e:akE vs h k=true):PR P w0 φ h ((execOp ρ o).run P w) fun v h'=>k v h'=true:=by
 obtain⟨p,aM,e1⟩:=iU e;clear e;subst aM;have e:=e1;clear e1;obtain⟨p',hp,hr⟩:=hv.one;simp at hp;subst hp;rcases SG e with⟨aM,e1⟩ | ⟨r,aM,e1⟩<;>(clear e;subst aM)
 · obtain⟨bU,h1,h2⟩:=B8 e1;obtain⟨g1,g2⟩:=H.newAt (f:=h.nx) (o:=.jD none 0 [] 0) (o':=.mapIter none 0 #[] 0) (d:=0) (n:=0) (h':=⟨h.nx+1,bU⟩) (H.fresh _ (zad _)) h1.1 (fun g hg _=>h1.2 g hg) (fun g hg=>H.fresh g (by simp only at hg;omega)) (fun g hg=>by rw [h1.2 g (by simp only at hg;omega)];exact H.top g (by simp only at hg;omega)) (by simp) _ (zad _)
    (.jD _ none none _ _ _ (fun _=>rfl) (fun r hr=>by cases hr))
   refine⟨_,_,_,_,_,.inl ?_,h2,g2,by simp,PR.HC,g1⟩;simp only [execOp,ho,hr.abo];simp [run_range_nilMap w t kt et hu]
 · obtain⟨r',hx,hf,AP⟩:=hr.SH;obtain⟨es,cl,h3,e2⟩:=EU e1;obtain⟨eJ,m1,m2⟩:=mapOf H hf AP h3;obtain⟨bU,h1,h2⟩:=B8 e2;obtain⟨g1,g2⟩:=H.newAt (f:=h.nx) (o:=.jD (some r) cl [] cl) (o':=.mapIter (some r') cl #[] cl) (d:=0) (n:=0) (h':=⟨h.nx+1,bU⟩) (H.fresh _ (zad _)) h1.1 (fun g hg _=>h1.2 g hg) (fun g hg=>H.fresh g (by simp only at hg;omega)) (fun g hg=>by rw [h1.2 g (by simp only at hg;omega)];exact H.top g (by simp only at hg;omega)) (by simp) _ (zad _)
    (.jD _ _ _ _ _ _ (fun h=>by cases h) (fun r0 w9=>by cases w9;exact⟨r',rfl,hf,AP⟩))
   refine⟨_,_,_,_,_,.inl ?_,h2,g2,by simp,PR.HC,g1⟩;simp only [execOp,ho,hx];simp [run_range_map w t kt et r' eJ cl hu m1]
theorem alO (H:HR P w0 φ h w){a a':Addr}{m:Option Nat}{since last:Nat}{seen:List Nat}(hf:φ a.block≠none)(eU:AtR φ a a')(h0:a.off=0)(ho:h.ob.get a.block=some (.jD m since seen last)):
 ∃b d n m',φ a.block=some (.live b d n)∧a'=⟨b,0,none⟩∧d=0∧w.heap[b]? =some (.mapIter m' since seen.toArray last)∧w0.heap.size≤b∧(m=none→m'=none)∧∀r,m=some r→∃r',m'=some r'∧φ r≠none∧∀b d n,φ r=some (.live b d n)→r'=b:=by
 obtain⟨b,d,n,o',m1,m2,m3,m4⟩:=H.live hf ho;obtain⟨q1,q2,q3⟩:=eU b d n m1;cases m3 with
 | jD _ _ m' _ _ _ z0 z1=>
  refine⟨b,0,n,m',m1,?_,rfl,m2,m4 rfl,z0,z1⟩;cases a';simp_all
theorem avz {x:Operand}(ho:o.op= .next x false)(H:HR P w0 φ h w)(hv:LR φ vs ([x].map ρ))(e:akF vs h k=true):PR P w0 φ h ((execOp ρ o).run P w) fun v h'=>k v h'=true:=by
  obtain⟨p,aM,e1⟩:=iU e;clear e;subst aM;have e:=e1;clear e1;obtain⟨p',hp,hr⟩:=hv.one;simp at hp;subst hp;obtain⟨a,aM,e1⟩:=qY e;clear e;subst aM;have e:=e1;clear e1;obtain⟨a',hx,hs,eU⟩:=hr.oZ;obtain⟨h0,e1⟩:=dX e;have h0:=zar h0;obtain⟨m,since,seen,last,g1,g2⟩:=alB e1;obtain⟨b,d,n,m',z1,rfl,rfl,z2,z3,z4,z5⟩:=alO H hs eU h0 g1;cases m with
  | none=>
    obtain rfl:=z4 rfl;refine .same H ?_ (.ko _ _ (.cons _ _ _ _ (.bool false) .nil)) g2;simp only [execOp,ho,hx];simp only [Instr.next,getObj,Sem.run_bind,Sem.run,z2,Result.andThen];rfl
  | some r=>
    obtain⟨r',rfl,hf,AP⟩:=z5 r rfl;obtain⟨es,cl,h3,e2⟩:=EU (show o4 h r _=true from g2);obtain⟨eJ,m1,m2⟩:=mapOf H hf AP h3;obtain⟨e3,e4⟩:=dX e2;rw [zae]at e3;obtain rfl:cl=since:=zar e3.1;obtain rfl:last=cl:=zar e3.2;obtain⟨u1,u2⟩:=acO _ e4
    have hold:∀x∈eJ.toList,x.born<last:=fun x hx=>by
      obtain⟨y,y1,_,_,y2⟩:=m2.mem x hx;rw [y2];exact u1 y y1
    have Mb:ER φ (es.filter fun e=> !seen.contains e.2.2) (leftOf eJ seen.toArray).toList:=by
      have:=ER.filter (p:=fun n=> !seen.contains n) m2;unfold leftOf;rw [Array.toList_filter];simpa using this
    rcases run_next_at (P:=P) w o.type b r' last last seen.toArray eJ last z2 m1 hold (zad _)with⟨q1,q2⟩ | ⟨en,q1,w1,q2,q3⟩
    · have LB:(es.filter fun e=> !seen.contains e.2.2)=[]:=by
        have:(leftOf eJ seen.toArray).toList=[]:=by simpa using q1
        rw [this]at Mb
        revert Mb
        generalize (es.filter fun e=> !seen.contains e.2.2)=L;intro Mb;cases Mb;rfl
      rw [LB]at u2;obtain⟨bU,k1,k2⟩:=uQ (show kQ h a.block none _=true from u2);refine⟨_,w,_,_,_,.inl ?_,k2,aY.Tc φ _ _ hs,zad _,.ko _ _ (.cons _ _ _ _ (.bool false) .nil),H.kill (h':=⟨h.nx,bU⟩) hs k1 rfl⟩;simp only [execOp,ho,hx];simp [q2]
    · obtain⟨y,y1,y2,y3,y4⟩:=Mb.mem en q1
      have iz:Cp (Tu h a.block r last seen k) (es.filter fun e=> !seen.contains e.2.2)=true:=by
        revert u2
        cases (es.filter fun e=> !seen.contains e.2.2)with
        | nil=>intro _;rfl
        | cons x l=>intro h;exact h
      have h5:=alM _ (show LN seen y.2.2 _=true from alN iz y y1);obtain⟨bU,k1,k2⟩:=uQ h5;have H1:HR P w0 φ h w1:=by rcases q2 with rfl | rfl;exact H;exact H.drew
      have hh:w1.heap=w.heap:=by rcases q2 with rfl | rfl<;>rfl
      have cy:b<w1.heap.size:=by rw [hh];exact(Array.getElem?_eq_some_iff.1 z2).1
      refine⟨_,ChangeMaps.setBlock w1 b (.mapIter (some r') last (seen.toArray.push en.born) last),_,_,φ,.inl ?_,k2,Ext.refl _ _,zad _,.ko _ _ (.cons _ _ _ _ (.bool true) (.cons _ _ _ _ y2 (.cons _ _ _ _ y3 .nil))),?_⟩
      · simp only [execOp,ho,hx];simp [q3]
      · refine H1.nK (h':=⟨h.nx,bU⟩) (o':=.mapIter (some r') last (seen.toArray.push en.born) last) z1 k1 rfl ?_ z3 (by simp [ChangeMaps.setBlock,cy]) (fun k hk=>by simp [ChangeMaps.setBlock,Ne.symm hk]) (by simp [ChangeMaps.setBlock]) rfl rfl rfl;have:seen.toArray.push en.born=(seen++[y.2.2]).toArray:=by simp [y4]
        rw [this];exact .jD _ _ _ _ _ _ (fun h=>by cases h) (fun r0 w9=>by cases w9;exact⟨r',rfl,hf,AP⟩)
theorem alP:∀ {l k},Fg l k=true→∃n,l.getLast? =some n∧k n=true
 | [],k,h=>by cases h
 | [n],k,h=>⟨n,rfl,h⟩
 | _::y::l,k,h=>by
  obtain⟨n,h1,h2⟩:=alP (l:=y::l) (show Fg (y::l) k=true from h);exact⟨n,by rw [List.getLast?_cons_cons];exact h1,h2⟩
theorem alQ {n k}:∀{es:List (Z×Z×Nat)}{eJ:List MapEntry},ER φ es eJ→Cq es n k=true→∃a v e,eJ.find? (·.born==n)=some e∧VR φ a e.key∧VR φ v e.val∧k a v=true
 | _,_,.nil,h=>by cases h
 | _,_,.cons a v b e l l' h1 h2 h3 h4,h=>by
  have h':(bif Nat.beq b n then k a v else Cq l n k)=true:=h
  by_cases hb:b=n
  · subst hb;rw [qh rfl,zam]at h';exact⟨a,v,e,by simp [h3],h1,h2,h'⟩
  · rw [jt hb,zak]at h';obtain⟨a',v',e',q1,q2⟩:=alQ h4 h';refine⟨a',v',e',?_,q2⟩;rw [List.find?_cons_of_neg (by rw [h3];simpa using hb)];exact q1
theorem avA {x}(ho:o.op= .entry x)(H:HR P w0 φ h w)(hv:LR φ vs ([x].map ρ))(e:akG vs h k=true):PR P w0 φ h ((execOp ρ o).run P w) fun v h'=>k v h'=true:=by
 obtain⟨p,aM,e1⟩:=iU e;clear e;subst aM;have e:=e1;clear e1;obtain⟨p',hp,hr⟩:=hv.one;simp at hp;subst hp;obtain⟨a,aM,e1⟩:=qY e;clear e;subst aM;have e:=e1;clear e1;obtain⟨a',hx,hs,eU⟩:=hr.oZ;obtain⟨h0,e1⟩:=dX e;have h0:=zar h0;obtain⟨m,since,seen,last,g1,g2⟩:=alB e1;obtain⟨b,d,n,m',z1,rfl,rfl,z2,z3,z4,z5⟩:=alO H hs eU h0 g1;cases m with
 | none=>cases g2
 | some r=>
  obtain⟨r',rfl,hf,AP⟩:=z5 r rfl;obtain⟨es,cl,h3,e2⟩:=EU (show o4 h r _=true from g2);obtain⟨eJ,m1,m2⟩:=mapOf H hf AP h3;obtain⟨e3,e4⟩:=dX e2;obtain rfl:cl=last:=zar e3;obtain⟨st,s1,e5⟩:=alP e4;obtain⟨ka,va,en,s2,s3,s4,e6⟩:=alQ m2 e5;refine .same H (v':=.tuple #[en.key,en.val]) ?_ (.ko _ _ (.cons _ _ _ _ s3 (.cons _ _ _ _ s4 .nil))) e6;have axu:eJ.find? (·.born==st)=some en:=by rw [←Array.find?_toList];exact s2
  have xa:seen.toArray.back? =some st:=by simpa using s1
  simp only [execOp,ho,hx];simp only [Instr.entry,getObj,Sem.run_bind,Sem.run,z2,m1,Result.andThen,xa,bne_self_eq_false,Bool.false_eq_true,if_false,axu];rfl
end
section
variable {P:Program}{w0 w:World}{φ:aY}{h:AH}{ρ:Operand→Value}{o:Oper}{vs:List Value}{k:KV}
theorem ajv (hρ:∀g,ρ (.func g)= .func (.func g) #[] #[]){p:Prim}{xs:List Operand}(hc:r9 P o=some (.aU p,xs))(H:HR P w0 φ h w)(hv:LR φ vs (xs.map ρ))(e:p.ev vs h k=true):PR P w0 φ h ((execOp ρ o).run P w) fun v h'=>k v h'=true:=by
 cases bK:o.op<;>simp only [r9,bK]at hc
 case move x=>cases hc;exact ajw (.inl bK) H hv e
 case assign x=>cases hc;exact ajw (.inr bK) H hv e
 case pick c a b=>cases hc;exact au4 bK H hv e
 case alloc ty=>split at hc<;>cases hc;exact au5 bK (by assumption) H e
 case box ty x=>cases hc;exact au6 bK H hv e
 case build t parts=>
  split at hc
  · rename_i fs z hu hz;split at hc
    · rename_i iz;split at hc
      · rename_i ps jL;cases hc;exact au1 bK hu hz (fun f hf=>List.all_eq_true.1 iz f hf) jL H hv e
      · cases hc
    · cases hc
  · rename_i n e' z hu hz;split at hc
    · rename_i s hs;cases hc;exact au2 bK hu hz hs H hv e
    · cases hc
  · cases hc
 case buildSlice t len parts=>
  split at hc
  · rename_i e' hu;split at hc
    · rename_i s z hs hz;split at hc
      · rename_i hg;cases hc;simp only [zae,zap,zbg]at hg;exact au3 bK hu hz hs hg.1.1 hg.1.2 hg.2 H hv e
      · cases hc
    · cases hc
  · cases hc
 case load t a=>
  split at hc
  · rename_i d s hu hs;split at hc
    · cases hc;exact au7 bK hu (by assumption) hs H hv e
    · rename_i hd;cases hc;exact au8 bK hu (by simpa using hd) H hv e
  · cases hc
 case store t a v=>
  split at hc
  · cases hc;exact au9 bK (by assumption) H hv e
  · cases hc
 case nilCheck x=>cases hc;exact ava bK H hv e
 case fieldAddr s x f=>
  split at hc
  · rename_i fs hu;split at hc
    · rename_i fl hf;split at hc
      · rename_i sz hs;split at hc
        · cases hc
        · rename_i eM;cases hc;exact avb bK hu hf hs eM H hv e
      · cases hc
    · cases hc
  · cases hc
 case field s x f=>
  split at hc
  · rename_i fs hu;split at hc
    · rename_i fl hf;split at hc
      · rename_i d sz hd hs;split at hc
        · cases hc;exact avc bK hu hf hd (by assumption) hs H hv e
        · rename_i hn;cases hc;exact avd bK hu hf hd (by simpa using hn) H hv e
      · cases hc
    · cases hc
  · cases hc
 case indexAddr t x i=>
  split at hc
  · split at hc
    · cases hc;exact ave bK (by assumption) (by assumption) H hv e
    · cases hc
  · split at hc
    · cases hc;exact avf bK (by assumption) (by assumption) H hv e
    · cases hc
  · cases hc
 case index t x i=>
  split at hc
  · rename_i len e' hu;split at hc
    · rename_i d s hd hs;split at hc
      · cases hc;exact avg bK hu hd (by assumption) hs H hv e
      · rename_i hn;split at hc
        · rename_i h1;subst h1;cases hc;exact avh bK hu hd (by simpa using hn) hs H hv e
        · cases hc
    · cases hc
  · cases hc;exact avi bK (by assumption) H hv e
  · cases hc
 case slice t x lo hi mx=>
  split at hc
  · split at hc
    · split at hc
      · rename_i hg;cases hc;simp only [zae,zap,zbi,zbc]at hg;exact avj bK (by assumption) (by assumption) hg.1 (fun hm=>by rcases hg.2 with h2 | h2<;>simp_all) H hv e
      · cases hc
    · cases hc
  · split at hc
    · split at hc
      · rename_i hg;cases hc;simp only [zbi,zbc]at hg;exact avk bK (by assumption) (by assumption) (fun hm=>by rcases hg with h2 | h2<;>simp_all) H hv e
      · cases hc
    · cases hc
  · split at hc
    · cases hc
    · rename_i hmx;cases hc;have K7:mx=none:=by cases mx<;>simp_all
      subst K7;exact avl bK (by assumption) H hv e
  · cases hc
 case binOp op t x y u=>
  split at hc
  · cases hc;exact avm bK H hv e
  · split at hc<;>cases hc<;>first | exact avn bK H hv e | exact avo bK H hv e | exact avp bK H hv e
  · rename_i hu;split at hc<;>cases hc
    · exact ajx bK (.inl ⟨rfl,rfl⟩) hu H hv e
    · exact ajx bK (.inr ⟨rfl,rfl⟩) hu H hv e
  · rename_i fs hu;split at hc
    · rename_i hg;simp only [zae,zbc]at hg;split at hc<;>cases hc
      · exact ajy bK (.inl ⟨rfl,rfl⟩) hu hg.1 hg.2 (by assumption) H hv e
      · exact ajy bK (.inr ⟨rfl,rfl⟩) hu hg.1 hg.2 (by assumption) H hv e
    · cases hc
  · rename_i hu;split at hc
    · split at hc<;>cases hc
      · exact w8 bK (.inl ⟨rfl,rfl⟩) hu rfl (fun h=>by cases h) H hv e
      · exact w8 bK (.inr ⟨rfl,rfl⟩) hu rfl (fun h=>by cases h) H hv e
    · split at hc<;>cases hc
      · exact ajz bK (.inl ⟨rfl,rfl⟩) hu (by assumption) H hv e
      · exact ajz bK (.inr ⟨rfl,rfl⟩) hu (by assumption) H hv e
  · rename_i hu;split at hc<;>cases hc
    · exact w8 bK (.inl ⟨rfl,rfl⟩) hu rfl (fun h=>by cases h) H hv e
    · exact w8 bK (.inr ⟨rfl,rfl⟩) hu rfl (fun h=>by cases h) H hv e
  · rename_i hu;split at hc<;>cases hc
    · exact w8 bK (.inl ⟨rfl,rfl⟩) hu rfl (fun h=>by cases h) H hv e
    · exact w8 bK (.inr ⟨rfl,rfl⟩) hu rfl (fun h=>by cases h) H hv e
  · rename_i hu;split at hc<;>cases hc
    · exact w8 bK (.inl ⟨rfl,rfl⟩) hu rfl (fun h=>by cases h) H hv e
    · exact w8 bK (.inr ⟨rfl,rfl⟩) hu rfl (fun h=>by cases h) H hv e
  · rename_i hu;split at hc
    · rename_i hcn;split at hc<;>cases hc
      · exact w8 bK (.inl ⟨rfl,rfl⟩) hu rfl (fun _=>hcn) H hv e
      · exact w8 bK (.inr ⟨rfl,rfl⟩) hu rfl (fun _=>hcn) H hv e
    · cases hc
  · cases hc
 case unOp op t x=>
  split at hc<;>cases hc
  · exact avq bK H hv e
  · exact avr bK H hv e
 case convert s t x=>
  split at hc
  · cases hc;exact avs bK (by assumption) (by assumption) H hv e
  · split at hc
    · split at hc
      · cases hc
      · cases hc;exact avt bK (by assumption) (by assumption) (by assumption) (by assumption) H hv e
    · cases hc
  · split at hc
    · cases hc;exact avu bK (by assumption) (by assumption) (by assumption) H hv e
    · cases hc
  · cases hc
 case makeInterface t x=>
  split at hc
  · cases hc
  · cases hc
  · rename_i hn1 HG;cases hc;refine avv bK ?_ H hv e;unfold Program.concrete;cases hu:P.underlying t with
    | none=>exact absurd hu HG
    | some d=>cases d<;>first | rfl | exact absurd hu (hn1 _)
 case makeFunc fn first dm=>
  split at hc<;>cases hc
  · exact ajA bK (fun _=>.func _) H hv e
  · exact ajA bK (fun _=>.method _) H hv e
 case makeMap t r=>
  split at hc<;>cases hc;exact avw bK H e
 case makeSlice t l c=>
  split at hc
  · rename_i e' hu;split at hc
    · rename_i i z hi hz;split at hc
      · rename_i hg;cases hc;simp only [zae,zap,zbg]at hg;obtain⟨i2,jK,K8,jd⟩:=vE hz;rw [hi]at jK;cases jK;exact auR bK hu hi K8 jd hg.1.2 hg.2 hg.1.1 H hv e
      · cases hc
    · cases hc
  · cases hc
 case lookup t m x ok=>
  split at hc
  · rename_i hu;split at hc
    · cases hc;exact auS bK hu (by assumption) (by assumption) H hv e
    · cases hc
  · cases hc
 case mapUpdate t m x v=>
  split at hc
  · rename_i hu;split at hc
    · cases hc;exact aji (.inl bK) hu (by assumption) H hv e
    · cases hc
  · cases hc
 case insert t m x v=>
  split at hc
  · rename_i hu;split at hc
    · cases hc;exact aji (.inr bK) hu (by assumption) H hv e
    · cases hc
  · cases hc
 case extract x i=>cases hc;exact avx bK H hv e
 case typeAssert x xt t ok=>
  split at hc
  · cases hc
  · rename_i d z hni hu hz;split at hc
    · rename_i jd;subst jd;cases hc;exact auW bK hu (fun m hm=>hni m hm) hz H hv e
    · cases hc
  · cases hc
 case range t x=>
  split at hc<;>cases hc
  · exact auX bK (by assumption) H hv e
  · exact avy bK (by assumption) H hv e
 case next x s=>
  split at hc
  · rename_i hs;subst hs;cases hc;exact auY bK H hv e
  · rename_i hs;cases hc;exact avz (by rw [bK];simpa using hs) H hv e
 case entry x=>cases hc;exact avA bK H hv e
 case call c=>
  have HJ:∀{x:Operand},c.args.toList=[x]→c.args= #[x]:=fun h=>by apply za8;simpa using h
  have HL:∀{x y:Operand},c.args.toList=[x,y]→c.args= #[x,y]:=fun h=>by apply za8;simpa using h
  split at hc
  · rename_i g fZ;split at hc
    · rename_i fn hf;split at hc
      · cases hc
      · split at hc
        · rename_i hb;rw [zae,Option.isNone_iff_eq_none]at hb
          have hx : ∀ {e : Array Z → Sem Z}, (fn.name == "runtime.NumGoroutine") = false → Extern.find fn = some e → ∀ v, (e (c.args.map ρ)).run P w = .ok v w → (execOp ρ o).run P w = .ok (.value v) w := fun h1 h2 v h3 => avB bK fZ (hρ g) hf h1 (Option.isNone_iff_eq_none.2 hb.1) (Option.isNone_iff_eq_none.1 hb.2) h2 h3
          split at hc
          · rename_i hn
            have hn : fn.name = "internal/abi.NoEscape" := by simpa using hn
            cases hc;exact avC (hx (by rw [hn];decide) (avD hn)) rfl H hv e
          · split at hc
            · rename_i hn
              have hn : fn.name = "internal/bytealg.CountString" := by simpa using hn
              cases hc;exact avE (hx (by rw [hn];decide) (avF hn)) rfl H hv e
            · split at hc
              · rename_i hn
                have hn : fn.name = "internal/bytealg.IndexByteString" := by simpa using hn
                cases hc;exact avG (hx (by rw [hn];decide) (avH hn)) rfl H hv e
              · cases hc
        · cases hc
    · cases hc
  · cases hc
  · cases hc
  · rename_i b fZ;split at hc
    · split at hc
      · rename_i hx ht;split at hc<;>cases hc
        · exact avI bK fZ (HJ hx) ht (by assumption) H hv e
        · exact avJ bK fZ (HJ hx) ht (by assumption) H hv e
        · exact avK bK fZ (HJ hx) ht (by assumption) H hv e
        · exact avL bK fZ (HJ hx) ht (by assumption) H e
      · cases hc
    · split at hc
      · rename_i hx ht;split at hc<;>cases hc;exact avM bK fZ (HJ hx) ht (by assumption) H hv e
      · cases hc
    · split at hc
      · rename_i hx ht hu;split at hc
        · rename_i K9 pI;split at hc
          · rename_i i z hi hz;split at hc
            · rename_i hg;cases hc;simp only [zae,zap,zbg]at hg;obtain⟨i2,jK,K8,jd⟩:=vE hz;rw [hi]at jK;cases jK;exact avN bK fZ (HL hx) ht hu K9 pI hi K8 hg.1.2 hg.2 hg.1.1 H hv e
            · cases hc
          · cases hc
        · rename_i K9 pI;split at hc
          · rename_i i z hi hz;split at hc
            · rename_i hg;cases hc;simp only [zae,zap,zbg]at hg;obtain⟨i2,jK,K8,jd⟩:=vE hz;rw [hi]at jK;cases jK;exact avO bK fZ (HL hx) ht hu K9 pI hi K8 hg.1.2 (by rw [hg.2,hg.1.1]) hg.1.1 H hv e
            · cases hc
          · cases hc
        · cases hc
      · cases hc
    · split at hc
      · rename_i hx ht;split at hc
        · rename_i K9;split at hc
          · rename_i sz hs;cases hc;obtain⟨i,hi,rfl⟩:=qZ hs;exact auL bK fZ (HL hx) ht K9 hi H hv e
          · cases hc
        · cases hc
      · cases hc
    · split at hc
      · rename_i hx;cases hc;exact auJ bK fZ (HL hx) H hv e
      · cases hc
    · split at hc
      · rename_i hx;cases hc;exact auK bK fZ (HL hx) H hv e
      · cases hc
    · split at hc<;>cases hc
    · split at hc
      · rename_i hx;cases hc;exact avP bK fZ (HJ hx) H hv e
      · cases hc
    · split at hc
      · rename_i hx ht;split at hc
        · rename_i hu;split at hc
          · cases hc;exact avQ bK fZ (HL hx) ht hu (by assumption) H hv e
          · cases hc
        · cases hc
      · cases hc
    · split at hc<;>cases hc
    · cases hc
 all_goals first
  | cases hc
  | (split at hc<;>cases hc)
end
def Ao (φ:aY) (rc:Rc) (b:Frame) (cs0 cs:List Frame):Prop:=match rc with | .off=>cs=cs0∧(b.kind= .normal∨(b.kind= .deferred∧∃c rest,cs0=c::rest∧c.mode= .returning)) | .can v=>cs=cs0∧b.kind= .deferred∧∃c rest v',cs0=c::rest∧c.mode= .panicking [{v:=v',recovered:=false}]∧VR φ v v' | .q7=>b.kind= .deferred∧∃c rest v',cs0=c::rest∧c.mode= .panicking [{v:=v',recovered:=false}]∧cs={c with mode:=.panicking [{v:=v',recovered:=true}]}::rest
def sc (φ:aY) (e:Env) (b:Frame):Prop:=b.fn=e.fn∧match e.Cc with | none=>b.roundOf=none | some l=>b.kind= .normal∧∃l',b.roundOf=some l'∧φ l≠none∧∀bl d n,φ l=some (.live bl d n)→l'=bl
structure SQ (P:Program) (w0:World) (φ:aY) (s:St) (b:Frame) (cs0 cs:List Frame) (a:Act) (w:World):Prop where
 df:DL φ s.df a.defers
 rc:Ao φ s.rc b cs0 cs
 heap:HR P w0 φ s.h w
structure SR (P:Program) (w0:World) (φ:aY) (e:Env) (s:St) (b:Frame) (cs0 cs:List Frame) (a:Act) (w:World):Prop extends SQ P w0 φ s b cs0 cs a w where
 tm:TR φ s.tm e.nt a.tmps
theorem Ao.ext {N φ φ'}(h:Ext N φ φ'){rc:Rc}{b:Frame}{cs0 cs:List Frame}(hr:Ao φ rc b cs0 cs):Ao φ' rc b cs0 cs:=by
 cases rc with
 | off=>exact hr
 | can v=>obtain⟨h1,h2,c,rest,v',h3,h4,h5⟩:=hr;exact⟨h1,h2,c,rest,v',h3,h4,VR.ext h h5⟩
 | q7=>exact hr
theorem sc.ext {N φ φ'}(h:Ext N φ φ'){e:Env}{b:Frame}(he:sc φ e b):sc φ' e b:=by
 obtain⟨h1,h2⟩:=he;refine⟨h1,?_⟩;cases hr:e.Cc with
 | none=>rw [hr]at h2;exact h2
 | some l=>
  rw [hr]at h2;obtain⟨h3,l',h4,h5,h6⟩:=h2;exact⟨h3,l',h4,h.bt h5,fun bl d n hl=>h6 bl d n (h.live h5 hl)⟩
section
variable {P:Program}{b:Frame}{a:Act}{k:List Item}{cs:List Frame}{w:World}{ops:Array Oper}{i:Nat}{rest:List Nat}{o:Oper}
theorem abt (ho:ops[i]? =some o)(hw:Region.wanted o (yielded ops a.tmps)=true){v:Z}{w':World}(hr:(o.semAt b.roundOf a.eval).run P w= .ok (.value v) w'):
 step P (lone (b.atR a (.inRegion ops (i::rest)::k)) cs w)= .next (lone (b.atR (a.put o.dst v) (.inRegion ops rest::k)) cs w'):=by
 have hf:=Frame.finish_atR b a ops i rest k v;rw [ho]at hf;rw [show a.put o.dst v=a.put ((some o).bind (·.dst)) v from rfl,←hf];exact step_lone_go (by rw [stepGR_op ho hw];simp [stepG.apply,hr])
theorem ajB (ho:ops[i]? =some o)(hw:Region.wanted o (yielded ops a.tmps)=true){w':World}(hr:(o.semAt b.roundOf a.eval).run P w= .ok .skip w'):
 step P (lone (b.atR a (.inRegion ops (i::rest)::k)) cs w)= .next (lone (b.atR (a.put o.dst undef) (.inRegion ops rest::k)) cs w'):=by
 have hf:=Frame.finish_atR b a ops i rest k undef;rw [ho]at hf;rw [show a.put o.dst undef=a.put ((some o).bind (·.dst)) undef from rfl,←hf];exact step_lone_go (by rw [stepGR_op ho hw];simp [stepG.apply,hr])
theorem avR (ho:ops[i]? =some o)(hw:Region.wanted o (yielded ops a.tmps)=true){f:FuncId}{args:Array Z}{w':World}(hr:(o.semAt b.roundOf a.eval).run P w= .ok (.enter f args) w'):
 step P (lone (b.atR a (.inRegion ops (i::rest)::k)) cs w)= .next (lone (Frame.enter P f args .normal) (b.atR a (.inRegion ops (i::rest)::k)::cs) w'):=
 step_lone_go (by rw [stepGR_op ho hw];simp [stepG.apply,hr,Frame.atR])
theorem avS (ho:ops[i]? =some o)(hw:Region.wanted o (yielded ops a.tmps)=true){l:Nat}{f:FuncId}{tmps:Array Z}{as bd:Code}{w':World}(hr:(o.semAt b.roundOf a.eval).run P w= .ok (.round l f tmps as bd) w'):
 step P (lone (b.atR a (.inRegion ops (i::rest)::k)) cs w)= .next (lone (Frame.round l f tmps as bd .normal) (b.atR a (.inRegion ops (i::rest)::k)::cs) w'):=
 step_lone_go (by rw [stepGR_op ho hw];simp [stepG.apply,hr,Frame.atR])
theorem avT (ho:ops[i]? =some o)(hw:Region.wanted o (yielded ops a.tmps)=true){d:Deferred}{w':World}(hr:(o.semAt b.roundOf a.eval).run P w= .ok (.defer d) w'):
 step P (lone (b.atR a (.inRegion ops (i::rest)::k)) cs w)= .next (lone (b.atR (({a with defers:=d::a.defers}:Act).put o.dst undef) (.inRegion ops rest::k)) cs w'):=by
 have hf:=Frame.finish_atR b {a with defers:=d::a.defers} ops i rest k undef;rw [ho]at hf;rw [show({a with defers:=d::a.defers}:Act).put o.dst undef=({a with defers:=d::a.defers}:Act).put ((some o).bind (·.dst)) undef from rfl,←hf];exact step_lone_go (by rw [stepGR_op ho hw];simp [stepG.apply,hr,Frame.atR])
theorem avU (ho:ops[i]? =some o)(hw:Region.wanted o (yielded ops a.tmps)=true){v:Z}{w':World}(hr:(o.semAt b.roundOf a.eval).run P w= .halt (.panic v) w'):
 step P (lone (b.atR a (.inRegion ops (i::rest)::k)) cs w)= .next (lone {b.atR a (.inRegion ops (i::rest)::k)with mode:=.panicking [{v,recovered:=false}]} cs w'):=by
 rw [←Frame.raise_atR];exact step_lone_go (by rw [stepGR_op ho hw];simp [stepG.apply,hr])
theorem ajC (hb:b.roundOf=none)(ho:ops[i]? =some o)(hw:Region.wanted o (yielded ops a.tmps)=true){w':World}(hr:(o.semAt b.roundOf a.eval).run P w= .ok .recover w'){v:Z}{ew:List Frame}
 (ht:(tryRecover (b.atR a (.inRegion ops (i::rest)::k)) cs=some (v,ew))∨(tryRecover (b.atR a (.inRegion ops (i::rest)::k)) cs=none∧v= .nilIface∧ew=cs)):
 step P (lone (b.atR a (.inRegion ops (i::rest)::k)) cs w)= .next (lone (b.atR (a.put o.dst v) (.inRegion ops rest::k)) ew w'):=by
 have hf:=Frame.finish_atR b a ops i rest k v;rw [ho]at hf;rw [show a.put o.dst v=a.put ((some o).bind (·.dst)) v from rfl,←hf];refine step_lone_go ?_;rw [stepGR_op ho hw];have dN:(b.atR a (.inRegion ops (i::rest)::k)).roundOf=none:=hb;rcases ht with ht | ⟨ht,rfl,rfl⟩
 · simp [stepG.apply,hr,dN,ht]
 · simp [stepG.apply,hr,dN,ht]
end
def La (φ:aY) (r:CR) (E:Ending):Prop:=match r with | .ret v=>∃v',E= .returned v'∧VR φ v v' | .bC v=>∃v',E= .panicked [{v:=v',recovered:=false}]∧VR φ v v'
def Can (P : Program) (f : FuncId) : Prop := ∃ fn, P.funcs[f]? = some fn ∧ (fn.name == "runtime.NumGoroutine") = false ∧ fn.body.isNone = false
def lz (P:Program) (w0:World) (f:FuncId) (args:ZZE) (h:AH) (k:CR→AH→Bool):Prop:=Can P f∧∀(φ:aY) (args':Array Z) (w:World),LR φ args args'.toList→HR P w0 φ h w→Calls P f args' w fun E w'=>∃r h' φ',k r h'=true∧Ext h.nx φ φ'∧h.nx≤h'.nx∧HR P w0 φ' h' w'∧La φ' r E
def Ap (P:Program) (w0:World) (l:Nat) (args:ZZE) (h:AH) (k:CR→AH→Bool):Prop:=∀(φ:aY) (args':Array Z) (l':Nat) (w:World),LR φ args args'.toList→φ l≠none→(∀b d n,φ l=some (.live b d n)→l'=b)→HR P w0 φ h w→∃f tmps as bd,(Instr.yield l' args').run P w= .ok (.round l' f tmps as bd) w∧∀(c:Frame) (cs:List Frame),∃v v' h' φ' w',k (.ret v) h'=true∧Ext h.nx φ φ'∧h.nx≤h'.nx∧HR P w0 φ' h' w'∧VR φ' v v'∧Steps P (lone (Frame.round l' f tmps as bd .normal) (c::cs) w) (lone (c.finish v') cs w')
def Cd (φ:aY) (m:Option Z) (u:FrameMode):Prop:=match m with | none=>u= .returning | some v=>∃v',u= .panicking [{v:=v',recovered:=false}]∧VR φ v v'
def ajD (φ:aY) (rc:Rc) (c c':Frame):Prop:=match rc with | .off=>c'=c∧c.mode= .returning | .can v=>c'=c∧∃v',c.mode= .panicking [{v:=v',recovered:=false}]∧VR φ v v' | .q7=>∃v',c.mode= .panicking [{v:=v',recovered:=false}]∧c'={c with mode:=.panicking [{v:=v',recovered:=true}]}
def avV (φ:aY) (rc:Rc) (c:Frame):Prop:=match rc with | .off=>c.mode= .returning | .can v=>∃v',c.mode= .panicking [{v:=v',recovered:=false}]∧VR φ v v' | .q7=>False
def SN (P:Program) (w0:World) (f:FuncId) (args:ZZE) (rc:Rc) (h:AH) (k:Rc→AH→Bool):Prop:=Can P f∧∀(φ:aY) (args':Array Z) (w:World) (c:Frame) (cs:List Frame),LR φ args args'.toList→HR P w0 φ h w→avV φ rc c→∃HM h' φ' w' c' fr v,k HM h'=true∧Ext h.nx φ φ'∧h.nx≤h'.nx∧HR P w0 φ' h' w'∧ajD φ' HM c c'∧Steps P (lone (Frame.enter P f args' .deferred) (c::cs) w) (lone fr (c'::cs) w')∧fr.kind= .deferred∧fr.going P w' (.returned v)
def tx (P:Program) (w0:World) (ds:List iS) (m:Option Z) (h:AH) (k:Option Z→AH→Bool):Prop:=∀(φ:aY) (fr:Frame) (cs:List Frame) (w:World),DL φ ds fr.defers→Cd φ m fr.mode→HR P w0 φ h w→∃m' h' φ' w' u,k m' h'=true∧Ext h.nx φ φ'∧h.nx≤h'.nx∧HR P w0 φ' h' w'∧Cd φ' m' u∧Steps P (lone fr cs w) (lone {fr with defers:=[],mode:=u} cs w')
def Lb (P:Program) (φ:aY) (m:Machine) (b:Frame) (todo:List Item) (x:AX) (cs:List Frame) (a:Act) (w:World):Prop:=match x with | .normal=>Steps P m (lone (b.atR a todo) cs w) | .exit id=>∃k1,exitTo id k1=exitTo id todo∧Steps P m (lone (b.atR a (.code (.exit id)::k1)) cs w) | .ret=>∃k1,Steps P m (lone (b.atR a (.code .ret::k1)) cs w) | .bC v=>∃k1 v',VR φ v v'∧Steps P m (lone {b.atR a k1 with mode:=.panicking [{v:=v',recovered:=false}]} cs w)
def SX (P:Program) (w0:World) (φ:aY) (e:Env) (x:AX) (s:St) (b:Frame) (cs0 cs:List Frame) (a:Act) (w:World):Prop:=match x with | .bC _=>SQ P w0 φ s b cs0 cs a w | _=>SR P w0 φ e s b cs0 cs a w
def mW (P:Program) (w0:World) (φ:aY) (N:Nat) (e:Env) (b:Frame) (cs0:List Frame) (m:Machine) (todo:List Item) (k:KS):Prop:=∃x s' φ' ew a' w',k x s'=true∧Ext N φ φ'∧N≤s'.h.nx∧SX P w0 φ' e x s' b cs0 ew a' w'∧Lb P φ' m b todo x ew a' w'
def abu (c:Code) (it:Item):Prop:=it= .code c∨∃c',c= .loop c'∧it= .inLoop c'
def Lc (P:Program) (w0:World) (c:Code) (e:Env) (s:St) (k:KS):Prop:=∀(φ:aY) (b:Frame) (cs0 cs:List Frame) (a:Act) (w:World),SR P w0 φ e s b cs0 cs a w→sc φ e b→∀it,abu c it→∀todo,mW P w0 φ s.h.nx e b cs0 (lone (b.atR a (it::todo)) cs w) todo k
def fS (P:Program) (w0:World):Task→Prop | .code ac e s k=>∀c,kR P e.nt c=some ac→Lc P w0 c e s k | .call f args h k=>lz P w0 f args h k | .HN f args rc h k=>SN P w0 f args rc h k | .round l args h k=>Ap P w0 l args h k | .leave ds m h k=>tx P w0 ds m h k
theorem Lb.of_steps {P φ m m1 b todo x cs a w}(h:Steps P m m1)(ha:Lb P φ m1 b todo x cs a w):Lb P φ m b todo x cs a w:=by
 cases x with
 | normal=>exact h.trans ha
 | exit id=>obtain⟨k1,h1,h2⟩:=ha;exact⟨k1,h1,h.trans h2⟩
 | ret=>obtain⟨k1,h2⟩:=ha;exact⟨k1,h.trans h2⟩
 | bC v=>obtain⟨k1,v',h1,h2⟩:=ha;exact⟨k1,v',h1,h.trans h2⟩
theorem mW.of_steps {P w0 φ φ1 N N1 e b cs0 m m1 todo k}(hE:Ext N φ φ1)(hN:N≤N1)(h:Steps P m m1)(g:mW P w0 φ1 N1 e b cs0 m1 todo k):mW P w0 φ N e b cs0 m todo k:=by
 obtain⟨x,s',φ',ew,a',w',h1,h2,h3,h4,h5⟩:=g;exact⟨x,s',φ',ew,a',w',h1,hE.trans h2 hN,zay hN h3,h4,h5.of_steps h⟩
theorem avW {P w f}(hc:Can P f)(args:Array Z):(callFunc f args).run P w= .ok (.enter f args) w:=by
 obtain⟨fn,h1,h2,h3⟩:=hc
 have Aq : fn.name ≠ "runtime.NumGoroutine" := by simpa using h2
 have Ld:fn.body≠none:=by intro hn;rw [hn]at h3;cases h3
 simp [callFunc,Sem.run_bind,program,Sem.run,Result.andThen,h1,Aq,Ld]
theorem Le {P w f}(hc:Can P f)(dm args:Array Z):(invoke (.fn (.func f) dm) args).run P w= .ok (.enter f (args++dm)) w:=avW hc _
section
variable {P:Program}{w0 w:World}{φ:aY}{e:Env}{s:St}{b:Frame}{cs0 cs:List Frame}{a:Act}{ops:Array Oper}{i:Nat}{o:Oper}{rest:List Nat}{todo:List Item}
def Ce (P:Program) (w0:World) (φ:aY) (s:St) (b:Frame) (cs0 cs:List Frame) (a:Act) (w:World) (ops:Array Oper) (i:Nat) (o:Oper) (rest:List Nat) (todo:List Item) (dst:Option Pos) (fail:KS) (k:St→Bool):Prop:=(∃v v' s1 φ' w' ew og,mg dst s1 v s1.h k=true∧s1.tm=s.tm∧Ext s.h.nx φ φ'∧s.h.nx≤s1.h.nx∧VR φ' v v'∧SQ P w0 φ' s1 b cs0 ew {a with defers:=og} w'∧Steps P (lone (b.atR a (.inRegion ops (i::rest)::todo)) cs w) (lone (b.atR (({a with defers:=og}:Act).put o.dst v') (.inRegion ops rest::todo)) ew w'))∨(∃v v' s1 φ' w',fail (.bC v) s1=true∧Ext s.h.nx φ φ'∧s.h.nx≤s1.h.nx∧VR φ' v v'∧SQ P w0 φ' s1 b cs0 cs a w'∧Steps P (lone (b.atR a (.inRegion ops (i::rest)::todo)) cs w) (lone {b.atR a (.inRegion ops (i::rest)::todo)with mode:=.panicking [{v:=v',recovered:=false}]} cs w'))
theorem abv (dst:Option Pos)(s:St)(v:Z)(h:AH)(k:St→Bool):mg dst s v h k=mg dst ⟨s.tm,s.df,s.rc,h⟩ v h k:=by cases s;rfl
theorem Ar (hd:∀c,o.op≠.defer c):o.semAt b.roundOf a.eval=execOp a.eval o:=Oper.semAt_eq _ _ _ hd
theorem abw {p xs}(hc:r9 P o=some (.aU p,xs)):∀c,o.op≠.defer c:=by
 intro c bK;simp only [r9,bK]at hc;split at hc<;>cases hc
theorem avX {p xs dst fail k vs rec}(ho:ops[i]? =some o)(hw:Region.wanted o (yielded ops a.tmps)=true)
 (hc:r9 P o=some (.aU p,xs)) (hq:SQ P w0 φ s b cs0 cs a w) (hv:LR φ vs (xs.map a.eval)) (h:ajE rec dst e s fail k vs p=true):Ce P w0 φ s b cs0 cs a w ops i o rest todo dst fail k:=by
 obtain⟨v',w',v,h',φ',h1,h2,h3,h4,h5,h6⟩:=ajv (fun _=>rfl) hc hq.heap hv h;refine .inl ⟨v,v',⟨s.tm,s.df,s.rc,h'⟩,φ',w',cs,a.defers,?_,rfl,h3,h4,h5,⟨hq.df.ext h3,hq.rc.ext h3,h6⟩,?_⟩
 · rw [abv]at h2;exact h2
 · have hs:=Ar (b:=b) (a:=a) (abw hc);rcases h1 with h1 | ⟨h1,rfl⟩
   · exact .one (abt ho hw (by rw [hs];exact h1))
   · exact .one (ajB ho hw (by rw [hs];exact h1))
theorem ajF {f args' as dst fail k}(ho:ops[i]? =some o)(hw:Region.wanted o (yielded ops a.tmps)=true)
 (hr:(o.semAt b.roundOf a.eval).run P w= .ok (.enter f args') w) (hq:SQ P w0 φ s b cs0 cs a w) (hl:LR φ as args'.toList) (avY:lz P w0 f as s.h (vI dst s fail k)):Ce P w0 φ s b cs0 cs a w ops i o rest todo dst fail k:=by
 obtain⟨E,w',fr,⟨r,h',φ',hk,hE,hN,hH,Lf⟩,Lg,oW,Lh⟩:=avY.2 φ args' w hl hq.heap (b.atR a (.inRegion ops (i::rest)::todo)::cs);have SO:=avR (k:=todo) (rest:=rest) (cs:=cs) ho hw hr;cases r with
 | ret v=>
  obtain⟨v',rfl,pJ⟩:=Lf;refine .inl ⟨v,v',⟨s.tm,s.df,s.rc,h'⟩,φ',w',cs,a.defers,?_,rfl,hE,hN,pJ,⟨hq.df.ext hE,hq.rc.ext hE,hH⟩,.head SO (Steps.trans Lg (.one ?_))⟩
  · have ij:mg dst s v h' k=true:=hk;rw [abv]at ij;exact ij
  · have:=step_leave_returned (c:=b.atR a (.inRegion ops (i::rest)::todo)) (cs:=cs) Lh;rw [Frame.finish_atR,ho]at this;exact this
 | bC v=>
  obtain⟨v',rfl,pJ⟩:=Lf;refine .inr ⟨v,v',⟨s.tm,s.df,s.rc,h'⟩,φ',w',?_,hE,hN,pJ,⟨hq.df.ext hE,hq.rc.ext hE,hH⟩,.head SO (Steps.trans Lg (.one ?_))⟩
  · cases s;exact hk
  · have:=step_leave_panicked (c:=b.atR a (.inRegion ops (i::rest)::todo)) (cs:=cs) Lh;rw [Frame.raise_atR]at this;exact this
theorem avZ {g c as dst fail k rec}(eQ:∀t,rec t=true→fS P w0 t)(ho:ops[i]? =some o)(hw:Region.wanted o (yielded ops a.tmps)=true)
 (bK:o.op= .call c) (fZ:c.callee= .value (.func g)) (hq:SQ P w0 φ s b cs0 cs a w) (hl:LR φ as (c.args.toList.map a.eval)) (h:ajG rec dst e s fail k as g=true):Ce P w0 φ s b cs0 cs a w ops i o rest todo dst fail k:=by
 have hC:=eQ _ h;have EZ:lz P w0 g as s.h (vI dst s fail k):=hC;refine ajF (args':=c.args.map a.eval) ho hw ?_ hq (by simpa using hl) EZ;rw [Ar (by intro c' h';rw [bK]at h';cases h')];have he:a.eval (.func g)= .func (.func g) #[] #[]:=rfl;simp [execOp,bK,resolve,fZ,he,Deferred.ofValue,Sem.run_bind,Result.andThen,Le EZ.1]
theorem av0 {P w ρ o c f fn first dm}(bK:o.op= .call c)(fZ:c.callee= .value f)(hf:ρ f= .func fn first dm):
 (execOp ρ o).run P w=(invoke (.fn fn dm) (first++c.args.map ρ)).run P w:=by
 simp [execOp,bK,resolve,fZ,hf,Deferred.ofValue,Sem.run_bind,Result.andThen]
theorem LR.E0 {φ l}(h:LR φ [] l):l=[]:=by cases h;rfl
theorem abx {v kf ky}(h:Cf v kf ky=true):
 (∃g first dm,v= .func (.func g) first dm∧kf g first.toList dm.toList=true)∨∃l,v= .func (.yield l) #[] #[]∧ky l=true:=by
 unfold Cf at h;split at h
 · exact .inl ⟨_,_,_,rfl,h⟩
 · exact .inr ⟨_,rfl,h⟩
 · cases h
theorem av1 {f c as dst fail k rec}(eQ:∀t,rec t=true→fS P w0 t)(ho:ops[i]? =some o)(hw:Region.wanted o (yielded ops a.tmps)=true)
 (bK:o.op= .call c) (fZ:c.callee= .value f) (hq:SQ P w0 φ s b cs0 cs a w) (hl:LR φ as ((f::c.args.toList).map a.eval)) (h:aby rec dst e s fail k as=true):Ce P w0 φ s b cs0 cs a w ops i o rest todo dst fail k:=by
 cases hl with
 | cons fv SP as yo hf hl=>
  have eM:∀c',o.op≠.defer c':=by intro c' h';rw [bK]at h';cases h'
  have h':Cf fv (fun g first dm=>mc as dm fun l=>mc first l fun l=>rec (.call g l s.h (vI dst s fail k))) (fun l=>rec (.round l as s.h (vI dst s fail k)))=true:=h;rcases abx h' with⟨g,first,dm,rfl,h1⟩ | ⟨l,rfl,h1⟩
  · have EZ:lz P w0 g (first.toList++(as++dm.toList)) s.h (vI dst s fail k):=eQ _ (Ah _ _ (Ah _ _ h1));generalize Li:a.eval f=SP at hf;cases hf with
    | func _ Af _ oY _ n9 oW h2 h3=>
     cases oW;refine ajF (args':=(oY++c.args.map a.eval)++n9) ho hw ?_ hq ?_ EZ
     · rw [Ar eM];simp [execOp,bK,resolve,fZ,Li,Deferred.ofValue,Sem.run_bind,Result.andThen,Le EZ.1]
     · have:=LR.append (LR.append h3 hl) h2;simpa using this
  · have EZ:Ap P w0 l as s.h (vI dst s fail k):=eQ _ h1;generalize Li:a.eval f=SP at hf;cases hf with
    | func _ Af _ oY _ n9 oW h2 h3=>
     have av2:oY= #[]:=Array.toList_eq_nil_iff.1 (LR.E0 h2);have av3:n9= #[]:=Array.toList_eq_nil_iff.1 (LR.E0 h3);subst av2;subst av3;cases oW with
     | yield _ l' hm vJ=>
      obtain⟨f2,tmps,asg,bd,hy,av4⟩:=EZ φ (c.args.map a.eval) l' w (by simpa using hl) hm vJ hq.heap;obtain⟨v,v',h',φ',w',hk,hE,hN,hH,pJ,ajH⟩:=av4 (b.atR a (.inRegion ops (i::rest)::todo)) cs
      have SO:=avS (b:=b) (a:=a) (k:=todo) (rest:=rest) (cs:=cs) ho hw (l:=l') (f:=f2) (tmps:=tmps) (as:=asg) (bd:=bd) (w':=w) (w:=w) (by
       rw [Ar eM,av0 bK fZ Li];simp only [Array.empty_append];exact hy)
      refine .inl ⟨v,v',⟨s.tm,s.df,s.rc,h'⟩,φ',w',cs,a.defers,?_,rfl,hE,hN,pJ,⟨hq.df.ext hE,hq.rc.ext hE,hH⟩,.head SO ?_⟩
      · have ij:mg dst s v h' k=true:=hk;rw [abv]at ij;exact ij
      · rw [Frame.finish_atR,ho]at ajH;exact ajH
end
section
variable {P:Program}{w0 w:World}{φ:aY}{e:Env}{s:St}{b:Frame}{cs0 cs:List Frame}{a:Act}{ops:Array Oper}{i:Nat}{o:Oper}{rest:List Nat}{todo:List Item}
theorem av5 {ρ c}(bK:o.op= .call c)(fZ:c.callee= .builtin .recover):(execOp ρ o).run P w= .ok .recover w:=by
 simp [execOp,bK,resolve,fZ,Sem.run_bind,Result.andThen,invoke,builtin]
theorem av6 {c as dst fail k}(ho:ops[i]? =some o)(hw:Region.wanted o (yielded ops a.tmps)=true)
 (bK:o.op= .call c) (fZ:c.callee= .builtin .recover) (hq:SQ P w0 φ s b cs0 cs a w) (he:sc φ e b) (h:Lj dst e s k as=true):Ce P w0 φ s b cs0 cs a w ops i o rest todo dst fail k:=by
 unfold Lj at h;split at h
 · rename_i w9;obtain⟨_,yp⟩:=he;rw [w9]at yp;have HO:b.roundOf=none:=yp
   have dT:(o.semAt b.roundOf a.eval).run P w= .ok .recover w:=by
    rw [Ar (by intro c' h';rw [bK]at h';cases h')];exact av5 bK fZ
   have oh:=hq.rc;split at h
   · rename_i v kq;rw [kq]at oh;obtain⟨rfl,hk,c1,Lk,v',rfl,hm,hv⟩:=oh
     have ht:tryRecover (b.atR a (.inRegion ops (i::rest)::todo)) (c1::Lk)=some (v',{c1 with mode:=.panicking [{v:=v',recovered:=true}]}::Lk):=by
      simp [tryRecover,Frame.atR,hk,hm]
     refine .inl ⟨v,v',⟨s.tm,s.df,.q7,s.h⟩,φ,w,_,a.defers,h,rfl,Ext.refl _ _,zad _,hv,⟨hq.df,⟨hk,c1,Lk,v',rfl,hm,rfl⟩,hq.heap⟩,.one (ajC HO ho hw dT (.inl ht))⟩
   · rename_i hnc
     have ht:tryRecover (b.atR a (.inRegion ops (i::rest)::todo)) cs=none:=by
      cases E4:s.rc with
      | can v=>exact absurd E4 (hnc v)
      | off=>
       rw [E4]at oh;obtain⟨rfl,hk | ⟨hk,c1,Lk,rfl,hm⟩⟩:=oh
       · simp [tryRecover,Frame.atR,hk]
       · simp [tryRecover,Frame.atR,hk,hm]
      | q7=>
       rw [E4]at oh;obtain⟨hk,c1,Lk,v',_,_,rfl⟩:=oh;simp [tryRecover,Frame.atR,hk]
     refine .inl ⟨.nilIface,.nilIface,s,φ,w,cs,a.defers,h,rfl,Ext.refl _ _,zad _,.Hv,⟨hq.df,hq.rc,hq.heap⟩,.one (ajC HO ho hw dT (.inr ⟨ht,rfl,rfl⟩))⟩
 · cases h
theorem ajI {t v}:(Instr.panic (.iface t v)).run P w= .halt (.panic (.iface t v)) w:=by
 simp [Instr.panic,goPanic,Sem.run]
theorem av7 {fail as}(h:SS s fail as=true):∃t x,as=[.iface t x]∧fail (.bC (.iface t x)) s=true:=by
 obtain⟨v,rfl,h1⟩:=iU (show a1 as _=true from h);cases v<;>first | exact⟨_,_,rfl,h1⟩ | cases h1
theorem ajJ {x as dst fail k}(ho:ops[i]? =some o)(hw:Region.wanted o (yielded ops a.tmps)=true)
 (bK:o.op= .panic x∨∃c,o.op= .call c∧c.callee= .builtin .panic∧c.args.toList=[x]) (hq:SQ P w0 φ s b cs0 cs a w) (hl:LR φ as ([x].map a.eval)) (h:SS s fail as=true):Ce P w0 φ s b cs0 cs a w ops i o rest todo dst fail k:=by
 obtain⟨t,v,rfl,h1⟩:=av7 h;obtain⟨v',kS,hv⟩:=LR.one hl;have hx:a.eval x=v':=by simpa using kS
 cases hv with
 | iface _ _ u hu=>
  refine .inr ⟨_,_,s,φ,w,h1,Ext.refl _ _,zad _,.iface t v u hu,⟨hq.df,hq.rc,hq.heap⟩,.one (avU ho hw ?_)⟩;rcases bK with bK | ⟨c,bK,fZ,oV⟩
  · rw [Ar (by intro c' h';rw [bK]at h';cases h')];simp [execOp,bK,hx,Sem.run_bind,ajI,Result.andThen]
  · rw [Ar (by intro c' h';rw [bK]at h';cases h')];have hm:c.args= #[x]:=by rw [←oV]
    simp [execOp,bK,resolve,fZ,hm,hx,Sem.run_bind,Result.andThen,invoke,builtin,ajI]
theorem av8 {f c as dst fail k}(ho:ops[i]? =some o)(hw:Region.wanted o (yielded ops a.tmps)=true)
 (bK:o.op= .defer c) (fZ:c.callee= .value f) (hq:SQ P w0 φ s b cs0 cs a w) (he:sc φ e b) (hl:LR φ as ((f::c.args.toList).map a.eval)) (h:Ll dst e s k as=true):Ce P w0 φ s b cs0 cs a w ops i o rest todo dst fail k:=by
 unfold Ll at h;split at h
 · rename_i fv yo w9;obtain⟨_,yp⟩:=he;rw [w9]at yp;have HO:b.roundOf=none:=yp;rcases abx h with⟨g,first,dm,rfl,h1⟩ | ⟨l,rfl,h1⟩
   · have h2:=Ah _ _ (Ah _ _ h1);cases hl with
     | cons _ SP _ aIY hf hl=>
      generalize Li:a.eval f=SP at hf;cases hf with
      | func _ Af _ oY _ n9 oW h3 h4=>
       cases oW
       have dT:(o.semAt b.roundOf a.eval).run P w= .ok (.defer {target:=.fn (.func g) n9,args:=oY++c.args.map a.eval}) w:=by
        rw [HO,Oper.semAt_none];simp [execOp,bK,resolve,fZ,Li,Deferred.ofValue,Sem.run_bind,Result.andThen]
       refine .inl ⟨undef,undef,⟨s.tm,.fn g (first.toList++(yo++dm.toList))::s.df,s.rc,s.h⟩,φ,w,cs,{target:=.fn (.func g) n9,args:=oY++c.args.map a.eval}::a.defers,h2,rfl,Ext.refl _ _,zad _,VR.undef φ,⟨?_,hq.rc,hq.heap⟩,.one (avT ho hw dT)⟩;refine .cons _ _ _ _ ⟨n9,_,rfl,?_⟩ hq.df;have:=LR.append (LR.append h4 hl) h3;simpa using this
   · cases h1
 · cases h
theorem abz {x y k}(hc:vK x=some y)(hr:∀p,y= .t p→VR φ (s.tm.get p) (a.tmps.getD p.un undef))(h:As y s.tm k=true):∃v,VR φ v (a.eval x)∧k v=true:=by
 cases x with
 | tmp t=>
  cases hc;have h':PT.fY (Pos.of t) s.tm k=true:=h;rw [PT.oX]at h';have:=hr _ rfl;rw [Pos.qU]at this;exact⟨_,this,h'⟩
 | const v=>
  simp only [vK]at hc;split at hc
  · rename_i jd;cases hc;exact⟨v,w7 jd,h⟩
  · cases hc
 | func f=>cases hc;exact⟨_,.func _ _ _ _ _ _ (.func f) .nil .nil,h⟩
 | global g=>cases hc
theorem ajK:∀{xs:List Operand}{ys:List gp}{k:ZZE→Bool},xs.mapM vK=some ys→(∀p,gp.t p∈ys→VR φ (s.tm.get p) (a.tmps.getD p.un undef))→vL ys s.tm k=true→∃vs,LR φ vs (xs.map a.eval)∧k vs=true:=by
 intro xs
 induction xs with
 | nil=>intro ys k hm _ h;simp at hm;subst hm;exact⟨[],.nil,h⟩
 | cons x xs ih=>
  intro ys k hm hr h;rw [List.mapM_cons]at hm;cases hx:vK x with
  | none=>simp [hx]at hm
  | some y=>
   cases pK:xs.mapM vK with
   | none=>simp [hx,pK]at hm
   | some ys'=>
    simp [hx,pK]at hm;subst hm;obtain⟨v,h1,h2⟩:=abz (a:=a) (s:=s) hx (fun p hp=>hr p (by simp [hp])) (show As y s.tm (fun v=>vL ys' s.tm fun vs=>k (v::vs))=true from h);obtain⟨vs,h3,h4⟩:=ih pK (fun p hp=>hr p (by simp [hp])) h2;exact⟨v::vs,.cons _ _ _ _ h1 h3,h4⟩
theorem av9 (x y:Bool):tz x y=(x==y):=by cases x<;>cases y<;>rfl
theorem abA {g want t yes no}(hg:o.guard=some (g,want))(ht:(ops[g]?).bind (·.dst)=some t)(hr:VR φ (s.tm.get (Pos.of t)) (a.tmps.getD t undef))(h:vM (some (Pos.of t,want)) s.tm yes no=true):
 (Region.wanted o (yielded ops a.tmps)=true∧yes=true)∨(Region.wanted o (yielded ops a.tmps)=false∧no=true):=by
 have h':PT.fY (Pos.of t) s.tm (E5 want yes no)=true:=h;rw [PT.oX]at h'
 have hy:yielded ops a.tmps g=(match a.tmps.getD t undef with | .bool c=>some c | _=>none):=by
  unfold yielded;rw [ht];simp only [zaf,zbb];cases hh:a.tmps[t]? with
  | none=>rfl
  | some u=>cases u<;>rfl
 unfold Region.wanted;rw [hg];simp only [hy];generalize a.tmps.getD t undef=u at hr;generalize s.tm.get (Pos.of t)=u0 at hr h';cases hr with
 | bool c=>
  have h2:(bif tz c want then yes else no)=true:=h';rw [av9]at h2;cases SU:(c==want)with
  | true=>rw [SU]at h2;left;exact⟨by simpa using SU,h2⟩
  | false=>rw [SU]at h2;right;exact⟨by simpa using SU,h2⟩
 | _=>right;exact⟨by simp,h'⟩
theorem HP {nt ao}(h:uS P nt ops o=some ao):∃act xs args,(r9 P o=some (act,xs)∨(act= .aU (.x .bad)∧xs=[]))∧xs.mapM vK=some args∧ao.act=act∧ao.args=args∧
 (o.dst=none∧ao.dst=none∨∃d,o.dst=some d∧d<nt∧ao.dst=some (Pos.of d))∧
 (o.guard=none∧ao.guard=none∨∃g want t,o.guard=some (g,want)∧(ops[g]?).bind (·.dst)=some t∧ao.guard=some (Pos.of t,want)):=by
 have hX:r9 P o=some (Lm P o)∨((Lm P o).1= .aU (.x .bad)∧(Lm P o).2=[]):=by
  unfold Lm;split
  · rename_i a xs hc;split
    · exact .inl hc
    · exact .inr ⟨rfl,rfl⟩
  · exact .inr ⟨rfl,rfl⟩
 unfold uS at h;split at h
 · rename_i act xs E6;have hc:r9 P o=some (act,xs)∨(act= .aU (.x .bad)∧xs=[]):=by rw [E6]at hX;exact hX
   split at h
   · cases h
   · rename_i args ha;simp only at h;split at h
     · cases h
     · rename_i dst hd
       have vN:o.dst=none∧dst=none∨∃d,o.dst=some d∧d<nt∧dst=some (Pos.of d):=by
        cases Ln:o.dst with
        | none=>rw [Ln]at hd;simp at hd;exact .inl ⟨rfl,hd.symm⟩
        | some d=>
         rw [Ln]at hd;simp at hd;exact .inr ⟨d,rfl,hd.1,hd.2.symm⟩
       split at h
       · rename_i hg;cases h;exact⟨act,xs,args,hc,ha,rfl,rfl,vN,.inl ⟨hg,rfl⟩⟩
       · rename_i g want hg;split at h
         · rename_i t ht;cases h;exact⟨act,xs,args,hc,ha,rfl,rfl,vN,.inr ⟨g,want,t,hg,ht,rfl⟩⟩
         · cases h
theorem awa {act xs}(hc:r9 P o=some (act,xs))(hn:∀p,act≠.aU p):
 (∃c,o.op= .call c∧((∃g,act= .call g∧c.callee= .value (.func g)∧xs=c.args.toList)∨(∃f,act= .dyn∧c.callee= .value f∧xs=f::c.args.toList)∨
  (act= .recover∧c.callee= .builtin .recover∧xs=[])∨(∃x,act= .panic∧c.callee= .builtin .panic∧c.args.toList=[x]∧xs=[x])))∨
 (∃x,o.op= .panic x∧act= .panic∧xs=[x])∨(∃c f,o.op= .defer c∧act= .defer∧c.callee= .value f∧xs=f::c.args.toList):=by
 cases bK:o.op<;>simp only [r9,bK]at hc
 case call c=>
  refine .inl ⟨c,rfl,?_⟩;cases fZ:c.callee with
  | value f=>
   rw [fZ]at hc;cases f with
   | func g'=>
    simp only at hc
    (repeat' split at hc)<;>first
     | (cases hc;done)
     | (cases hc;exact .inl ⟨g',rfl,rfl,rfl⟩)
     | (cases hc;exact absurd rfl (hn _))
   | _=>cases hc;exact .inr (.inl ⟨_,rfl,rfl,rfl⟩)
  | invoke r m=>rw [fZ]at hc;cases hc
  | builtin bb=>
   rw [fZ]at hc
   cases bb<;>simp only at hc<;>(repeat' split at hc)<;>first
    | (cases hc;done)
    | (cases hc;exact absurd rfl (hn _))
    | (cases hc;rename_i hx;exact .inr (.inr (.inl ⟨rfl,rfl,rfl⟩)))
    | (cases hc;rename_i hx;exact .inr (.inr (.inr ⟨_,rfl,rfl,hx,rfl⟩)))
 case panic x=>cases hc;exact .inr (.inl ⟨x,rfl,rfl,rfl⟩)
 case defer c=>
  split at hc
  · rename_i f fZ;cases hc;exact .inr (.inr ⟨c,f,rfl,rfl,fZ,rfl⟩)
  · cases hc
 all_goals ((repeat' split at hc)<;>first | (cases hc;done) | (cases hc;exact absurd rfl (hn _)))
theorem ajL {ao:cB}{fail:KS}{k:St→Bool}{rec:Task→Bool}{nt:Nat}(eQ:∀t,rec t=true→fS P w0 t)(hc:uS P nt ops o=some ao)(ho:ops[i]? =some o)(hq:SQ P w0 φ s b cs0 cs a w)(he:sc φ e b)
 (hr:∀p∈ao.reads,VR φ (s.tm.get p) (a.tmps.getD p.un undef)) (h:Cg rec ao e s fail k=true):Ce P w0 φ s b cs0 cs a w ops i o rest todo ao.dst fail k:=by
 obtain⟨act,xs,args,h1,h2,rfl,rfl,h4,h5⟩:=HP hc
 have oV:∀p,gp.t p∈ao.args→VR φ (s.tm.get p) (a.tmps.getD p.un undef):=fun p hp=>hr p (by
  unfold cB.reads;exact zaO _ (List.mem_filterMap.2 ⟨.t p,hp,rfl⟩))
 have key:(Region.wanted o (yielded ops a.tmps)=true∧vL ao.args s.tm (HQ rec ao.act ao.dst e s fail k)=true)∨(Region.wanted o (yielded ops a.tmps)=false∧mg ao.dst s undef s.h k=true):=by
  have h':vM ao.guard s.tm (vL ao.args s.tm (HQ rec ao.act ao.dst e s fail k)) (mg ao.dst s undef s.h k)=true:=by cases ao;exact h
  rcases h5 with⟨g1,g2⟩ | ⟨g,want,t,g1,g2,g3⟩
  · rw [g2]at h';exact .inl ⟨by simp [Region.wanted,g1],h'⟩
  · rw [g3]at h';refine abA (φ:=φ) g1 g2 ?_ h';have:=hr (Pos.of t) (by unfold cB.reads;rw [g3];simp);rw [Pos.qU]at this;exact this
 rcases key with⟨hw,hk⟩ | ⟨hw,hk⟩
 · obtain⟨vs,hv,hk⟩:=ajK h2 oV hk;rcases h1 with h1 | ⟨hb,_⟩
   rotate_left
   · rw [hb]at hk;exact Bool.noConfusion (show false=true from hk)
   by_cases hp:∃p,ao.act= .aU p
   · obtain⟨p,hp⟩:=hp;rw [hp]at h1 hk;exact avX (rec:=rec) (e:=e) ho hw h1 hq hv hk
   · have hn:∀p,ao.act≠.aU p:=fun p hp'=>hp ⟨p,hp'⟩
     rcases awa h1 hn with⟨c,bK,⟨g,ha,fZ,rfl⟩ | ⟨f,ha,fZ,rfl⟩ | ⟨ha,fZ,rfl⟩ | ⟨x,ha,fZ,hx,rfl⟩⟩ | ⟨x,bK,ha,rfl⟩ | ⟨c,f,bK,ha,fZ,rfl⟩
     · rw [ha]at hk;exact avZ (e:=e) eQ ho hw bK fZ hq hv hk
     · rw [ha]at hk;exact av1 (e:=e) eQ ho hw bK fZ hq hv hk
     · rw [ha]at hk;exact av6 ho hw bK fZ hq he hk
     · rw [ha]at hk;exact ajJ ho hw (.inr ⟨c,bK,fZ,hx⟩) hq hv hk
     · rw [ha]at hk;exact ajJ ho hw (.inl bK) hq hv hk
     · rw [ha]at hk;exact av8 ho hw bK fZ hq he hv hk
 · refine .inl ⟨undef,undef,s,φ,w,cs,a.defers,hk,rfl,Ext.refl _ _,zad _,VR.undef φ,⟨hq.df,hq.rc,hq.heap⟩,.one ?_⟩;have:=stepR_op_skip (P:=P) (b:=b) (a:=a) (k:=todo) (cs:=cs) (w:=w) (ops:=ops) (i:=i) (rest:=rest) (by simp [ho,hw]);rw [ho]at this;exact this
end
section
variable {P:Program}{w0 w:World}{φ:aY}{e:Env}{s:St}{b:Frame}{cs0 cs:List Frame}{a:Act}{ops:Array Oper}{i:Nat}{o:Oper}{rest:List Nat}{todo:List Item}
theorem awb {dst v k}(h:mg dst s v s.h k=true):(dst=none∧k s=true)∨∃p,dst=some p∧k ⟨s.tm.set p v,s.df,s.rc,s.h⟩=true:=by
 cases dst with
 | none=>exact .inl ⟨rfl,by cases s;exact h⟩
 | some p=>
  refine .inr ⟨p,rfl,?_⟩;have h':PT.lh p s.tm v (fun tm'=>k ⟨tm',s.df,s.rc,s.h⟩)=true:=by cases s;exact h
  rw [PT.rZ]at h';exact h'
theorem Act.SV (a:Act)(d:Option Tmp)(v:Z):(a.put d v).defers=a.defers:=by cases d<;>rfl
theorem SQ.defers {a a'}(hq:SQ P w0 φ s b cs0 cs a w)(h:a'.defers=a.defers):SQ P w0 φ s b cs0 cs a' w:=⟨h▸hq.df,hq.rc,hq.heap⟩
inductive HS (P:Program) (nt:Nat) (ops:Array Oper):List Nat→List cB→Prop where
 | nil:HS P nt ops [] []
 | cons (i:Nat) (o:Oper) (ao:cB) (is:List Nat) (l:List cB) (ho:ops[i]? =some o) (hc:uS P nt ops o=some ao) (hl:HS P nt ops is l):HS P nt ops (i::is) (ao::l)
theorem awc {nt}:∀(E7 pre:List Oper) (l:List cB),E7.mapM (uS P nt ops)=some l→ops.toList=pre++E7→HS P nt ops (List.range' pre.length E7.length) l:=by
 intro E7
 induction E7 with
 | nil=>intro pre l h _;simp at h;subst h;exact .nil
 | cons o E7 ih=>
  intro pre l h hp;rw [List.mapM_cons]at h;cases ho:uS P nt ops o with
  | none=>simp [ho]at h
  | some ao=>
   cases hs:E7.mapM (uS P nt ops)with
   | none=>simp [ho,hs]at h
   | some l'=>
    simp [ho,hs]at h;subst h;rw [zaE,List.range'_succ];refine .cons _ o _ _ _ ?_ ho ?_
    · rw [←Array.getElem?_toList,hp];simp
    · have:=ih (pre++[o]) l' hs (by simp [hp]);simpa using this
theorem awd {nt l}(h:Lo P nt ops=some l):HS P nt ops (List.range ops.size) l:=by
 have:=awc ops.toList [] l h rfl;simpa [List.range_eq_range']using this
theorem awe {nt ao}(hc:uS P nt ops o=some ao){a:Act}{tm:PT}(ht:TR φ tm nt a.tmps){v v':Z}(hv:VR φ v v'):
 (ao.dst=none→TR φ tm nt (a.put o.dst v').tmps)∧(∀p,ao.dst=some p→TR φ (tm.set p v) nt (a.put o.dst v').tmps):=by
 obtain⟨act,xs,args,h1,h2,h3,Ld,h4,h5⟩:=HP hc;rcases h4 with⟨h6,h7⟩ | ⟨d,h6,hd,h7⟩
 · rw [h6,h7];refine⟨fun _=>ht,fun p hp=>?_⟩;cases hp
 · rw [h6,h7];refine⟨fun hn=>(by cases hn),fun p hp=>?_⟩;cases hp;have:=ht.set (Pos.of d) (by rw [Pos.qU];exact hd) hv;rw [Pos.qU]at this;exact this
theorem awf {rec}(eQ:∀t,rec t=true→fS P w0 t){k:KS}:∀{is:List Nat}{l:List cB},HS P e.nt ops is l→∀{φ:aY}{s:St}{cs:List Frame}{a:Act}{w:World},SR P w0 φ e s b cs0 cs a w→sc φ e b→Lp rec l e s k=true→
 mW P w0 φ s.h.nx e b cs0 (lone (b.atR a (.inRegion ops is::todo)) cs w) todo k:=by
 intro is l hR
 induction hR with
 | nil=>
  intro φ s cs a w hs he h;exact⟨.normal,s,φ,cs,a,w,h,Ext.refl _ _,zad _,hs,.one stepR_region_end⟩
 | cons i o ao is l ho hc hl ih=>
  intro φ s cs a w hs he h;have h':Cg rec ao e s k (fun s=>Lp rec l e s k)=true:=h;rcases ajL (rest:=is) (todo:=todo) eQ hc ho hs.toSQ he (fun p _=>hs.tm.2 p) h' with⟨v,v',s1,φ',w',ew,og,h1,h2,h3,h4,h5,h6,h7⟩ | ⟨v,v',s1,φ',w',h1,h3,h4,h5,h6,h7⟩
  · have ik:TR φ' s1.tm e.nt ({a with defers:=og}:Act).tmps:=by rw [h2];exact hs.tm.ext h3
    obtain⟨t1,t2⟩:=awe hc ik h5;rcases awb h1 with⟨hd,hk⟩ | ⟨p,hd,hk⟩
    · exact(ih (s:=s1) ⟨h6.defers (Act.SV _ _ _),t1 hd⟩ (he.ext h3) hk).of_steps h3 h4 h7
    · exact(ih (s:=⟨s1.tm.set p v,s1.df,s1.rc,s1.h⟩) ⟨SQ.mk (by rw [Act.SV];exact h6.df) h6.rc h6.heap,t2 p hd⟩ (he.ext h3) hk).of_steps h3 h4 h7
  · exact⟨.bC v,s1,φ',cs,a,w',h1,h3,h4,h6,⟨_,v',h5,h7⟩⟩
end
section
variable {P:Program}{w0 w:World}{φ:aY}{h:AH}
theorem Ext.mono {N M φ φ'}(h:Ext N φ φ')(hM:M≤N):Ext M φ φ':=⟨h.old,fun f hf=>h.out f (za1 hf hM)⟩
theorem HR.new (H:HR P w0 φ h w){o:AO}{o':Obj}{d n:Nat}{bU:NT AO}(hs:h.ob.mU h.nx (some o) bU)(ho:OR P φ d n o o'):
 HR P w0 (φ.put h.nx (.live w.heap.size d n)) ⟨h.nx+1,bU⟩ (w.alloc o')∧Ext h.nx φ (φ.put h.nx (.live w.heap.size d n)):=
 H.newAt (f:=h.nx) (h':=⟨h.nx+1,bU⟩) (H.fresh _ (zad _)) hs.1 (fun g hg _=>hs.2 g hg) (fun g hg=>H.fresh g (by have:h.nx+1≤g:=hg;omega)) (fun g hg=>by have h2:h.nx+1≤g:=hg;show bU.get g=none;rw [hs.2 g (by omega)];exact H.top g (by omega)) (zax _) h.nx (zad _) ho
theorem HR.loop (H:HR P w0 φ h w){f:Nat}{l:qi}(hf:φ f≠none)(ho:h.ob.get f=some (.loop l)):∃b d n l',φ f=some (.live b d n)∧w.heap[b]? =some (.loop l')∧yr P φ l l'∧w0.heap.size≤b:=by
 obtain⟨b,d,n,o',h1,h2,h3,h4⟩:=H.live hf ho;cases h3 with
 | loop _ _ _ l' hl=>exact⟨b,d,n,l',h1,h2,hl,h4 rfl⟩
theorem awg {l r}(hl:w.heap[l]? =some (.loop r))(fn:FuncId)(tmps:Array Z)(ps:Array Tmp)(assign body:Code):
 (Instr.enterLoop fn tmps ps assign body (some l)).run P w= .ok (w.heap.size,[]) (w.alloc (.loop {state:=.ready,pending:=none,fn,tmps,params:=ps,assign,body,defers:=r.defers})):=by
 unfold Instr.enterLoop;simp only [Sem.run_bind,run_getLoop hl,run_newObj_alloc,Result.andThen,Sem.run_pure]
variable {e:Env}{s:St}{b:Frame}{cs0 cs:List Frame}{a:Act}{todo:List Item}{k:KS}
theorem mW.bind {N m ajM k'}(g:mW P w0 φ N e b cs0 m ajM k')
 (h:∀x s1 φ1 iV a1 w1,k' x s1=true→Ext N φ φ1→N≤s1.h.nx→SX P w0 φ1 e x s1 b cs0 iV a1 w1→Lb P φ1 m b ajM x iV a1 w1→mW P w0 φ N e b cs0 m todo k):mW P w0 φ N e b cs0 m todo k:=by
 obtain⟨x,s1,φ1,iV,a1,w1,h1,h2,h3,h4,h5⟩:=g;exact h x s1 φ1 iV a1 w1 h1 h2 h3 h4 h5
theorem step_scope {c}:step P (lone (b.atR a (.code (.scope c)::todo)) cs w)= .next (lone (b.atR a (.code c:: .inScope c::todo)) cs w):=
 step_lone_go (by simp [stepG,stepG.exec,Frame.atR])
theorem step_inScope {c}:step P (lone (b.atR a (.inScope c::todo)) cs w)= .next (lone (b.atR a todo) cs w):=
 step_lone_go (by simp [stepG,stepG.exec,Frame.atR])
def ajN (P:Program) (w0:World):Prop:=∀(rec:Task→Bool),(∀t,rec t=true→fS P w0 t)→∀(e:Env) (b:Frame) (cs0:List Frame) (todo:List Item) (k:KS) (id:Nat) (ops:Array Oper) (l:List cB) (dl:List nI),Lo P e.nt ops=some l→abB ops l.toArray=some dl→∀(φ:aY) (s:St) (cs:List Frame) (a:Act) (w:World),SR P w0 φ e s b cs0 cs a w→sc φ e b→vO rec dl e s k=true→mW P w0 φ s.h.nx e b cs0 (lone (b.atR a (.code (.region id ops true)::todo)) cs w) todo k
theorem ajO {rec}(eQ:∀t,rec t=true→fS P w0 t){ac:fw}{c2:Code}{it:Item}{m:Machine}{N:Nat}(hc:kR P e.nt c2=some ac)(kr:abu c2 it)(hx:∀id,exitTo id (it::todo)=exitTo id todo)(he:sc φ e b)
 (g:mW P w0 φ N e b cs0 m (it::todo) (Lq rec ac e k)):mW P w0 φ N e b cs0 m todo k:=by
 refine g.bind fun x s1 φ1 iV a1 w1 h1 h2 h3 h4 h5=>?_;cases x with
 | normal=>
  have hC:fS P w0 (.code ac e s1 k):=eQ _ h1;have:=hC c2 hc φ1 b cs0 iV a1 w1 h4 (he.ext h2) it kr todo;exact this.of_steps h2 h3 h5
 | exit id=>
  obtain⟨k1,h6,h7⟩:=h5;exact⟨.exit id,s1,φ1,iV,a1,w1,h1,h2,h3,h4,k1,by rw [h6,hx],h7⟩
 | ret=>exact⟨.ret,s1,φ1,iV,a1,w1,h1,h2,h3,h4,h5⟩
 | bC v=>exact⟨.bC v,s1,φ1,iV,a1,w1,h1,h2,h3,h4,h5⟩
theorem awh {id m N}(g:mW P w0 φ N e b cs0 m (.inBlock id::todo) (abC id k)):mW P w0 φ N e b cs0 m todo k:=by
 refine g.bind fun x s1 φ1 iV a1 w1 h1 h2 h3 h4 h5=>?_;cases x with
 | normal=>exact⟨.normal,s1,φ1,iV,a1,w1,h1,h2,h3,h4,Steps.trans h5 (.one stepR_inBlock)⟩
 | exit j=>
  obtain⟨k1,h6,h7⟩:=h5;have ma:(bif Nat.beq j id then k .normal s1 else k (.exit j) s1)=true:=h1;cases hj:Nat.beq j id with
  | true=>
   rw [hj]at ma;have:j=id:=zar hj;subst this;have h6':exitTo j k1=some todo:=by rw [h6];simp [exitTo]
   exact⟨.normal,s1,φ1,iV,a1,w1,ma,h2,h3,h4,Steps.trans h7 (.one (stepR_exit h6'))⟩
  | false=>
   rw [hj]at ma;have eM:¬(id=j):=fun e'=>by subst e';rw [zbn]at hj;cases hj
   refine⟨.exit j,s1,φ1,iV,a1,w1,ma,h2,h3,h4,k1,?_,h7⟩;rw [h6];simp [exitTo,eM]
 | ret=>exact⟨.ret,s1,φ1,iV,a1,w1,h1,h2,h3,h4,h5⟩
 | bC v=>exact⟨.bC v,s1,φ1,iV,a1,w1,h1,h2,h3,h4,h5⟩
theorem awi {l:Nat}{df:List iS}{pj:Option Code}{h1:AH}{N:Nat}{m:Machine}(hj:SW s df k pj h1=true)(hs:SR P w0 φ e ⟨s.tm,df,s.rc,h1⟩ b cs0 cs a w)(hN:N≤h1.nx)
 (mV:Steps P m (lone (b.atR a ((pj.map Item.code).toList++todo)) cs w)):mW P w0 φ N e b cs0 m todo k:=by
 unfold SW at hj;split at hj
 · exact⟨.normal,_,φ,cs,a,w,hj,Ext.refl _ _,hN,hs,mV⟩
 · exact⟨.ret,_,φ,cs,a,w,hj,Ext.refl _ _,hN,hs,todo,mV⟩
 · exact⟨.exit _,_,φ,cs,a,w,hj,Ext.refl _ _,hN,hs,todo,rfl,mV⟩
 · cases hj
theorem yr.nK {l l'}(r:yr P φ l l')(st:LoopState)(j:Option Code):yr P φ (l.nK st j) {l' with state:=st,pending:=j}:=by
 cases l;exact⟨rfl,rfl,r.fn,r.tm,r.params,r.small,r.assign,r.body,r.defs,r.abD⟩
theorem HR.abE (H:HR P w0 φ h w){f b d n:Nat}{l':Loop}{bU:NT AO}(hl:φ f=some (.live b d n))(hw:w.heap[b]? =some (.loop l'))(hb:w0.heap.size≤b){l2:qi}{Lr:Loop}(hs:h.ob.mU f (some (.loop l2)) bU)(hr:yr P φ l2 Lr):
 HR P w0 φ ⟨h.nx,bU⟩ (w.putObj b (.loop Lr)):=by
 have cy:b<w.heap.size:=(Array.getElem?_eq_some_iff.1 hw).1;exact H.nK (h':=⟨h.nx,bU⟩) hl hs rfl (.loop d n _ _ hr) hb (World.putObj_heap_same cy) (fun k hk=>World.putObj_heap_other hk) World.putObj_size rfl rfl rfl
theorem ajP {rec:Task→Bool}(eQ:∀t,rec t=true→fS P w0 t){g:Operand}{ps:Array Tmp}{assign body:Code}{x y:fw}{gf:FuncId}{first dm oY n9:Array Z}{h1:AH}{dl:Nat}{df:List iS}{mark:List Deferred}{w1:World}{N dl':Nat}
 (jL:∀t∈ps.toList,t<e.nt) (hx:kR P e.nt assign=some x) (hy:kR P e.nt body=some y) (hg:a.eval g= .func (.func gf) oY n9) (E8:LR φ first.toList oY.toList) (E9:LR φ dm.toList n9.toList)
 (hb:b.fn=e.fn) (ik:TR φ s.tm e.nt a.tmps) (Ch:DL φ df (mark++a.defers)) (oh:Ao φ s.rc b cs0 cs) (H:HR P w0 φ h1 w1) (Ci:φ dl≠none) (awj:∀b d n,φ dl=some (.live b d n)→dl'=b) (hN:N≤h1.nx)
 (awk:(Instr.enterLoop b.fn a.tmps ps assign body b.roundOf).run P w= .ok (w1.heap.size,mark) (w1.alloc (.loop {state:=.ready,pending:=none,fn:=b.fn,tmps:=a.tmps,params:=ps,assign,body,defers:=dl'})))
 (hk:Ls rec e s k (ps.toList.map Pos.of) x y gf first.toList dm.toList h1 dl df=true):
 mW P w0 φ N e b cs0 (lone (b.atR a (.code (.rangeFunc g ps assign body)::todo)) cs w) todo k:=by
 obtain⟨bU,ee,hk1⟩:=B8 hk
 have hLR:yr P φ ⟨.ready,none,e.fn,s.tm,ps.toList.map Pos.of,x,y,dl,e.nt⟩ {state:=.ready,pending:=none,fn:=b.fn,tmps:=a.tmps,params:=ps,assign,body,defers:=dl'}:=
  ⟨rfl,rfl,hb,ik,rfl,jL,hx,hy,Ci,awj⟩
 obtain⟨H1,yt⟩:=H.new ee (.loop 0 0 _ _ hLR);have Lt:=Ah _ _ hk1;have hC:lz P w0 gf (first.toList++(.func (.yield h1.nx) ⟨[]⟩ ⟨[]⟩::dm.toList)) ⟨h1.nx+1,bU⟩ (abF s df k h1.nx):=eQ _ Lt;have o3:(φ.put h1.nx (.live w1.heap.size 0 0)) h1.nx=some (.live w1.heap.size 0 0):=aY.me _ _ _
 have oV:LR (φ.put h1.nx (.live w1.heap.size 0 0)) (first.toList++(.func (.yield h1.nx) ⟨[]⟩ ⟨[]⟩::dm.toList)) ((oY++ #[Value.func (.yield w1.heap.size) #[] #[]])++n9).toList:=by
  have:=LR.append (LR.cons _ _ _ _ (VR.func (.yield h1.nx) (.yield w1.heap.size) ⟨[]⟩ #[] ⟨[]⟩ #[] (.yield _ _ (by rw [o3];simp) (fun b d n hh=>by rw [o3]at hh;cases hh;rfl)) .nil .nil) (LR.ext yt E9)) (LR.ext yt E8);simpa using this
 have vP:=stepR_rangeFunc (P:=P) (b:=b) (a:=a) (k:=todo) (cs:=cs) (w:=w) (g:=g) (ps:=ps) (assign:=assign) (body:=body) (d:={target:=.fn (.func gf) n9,args:=oY++ #[.func (.yield w1.heap.size) #[] #[]]})
  (f:=gf) (args:=(oY++ #[.func (.yield w1.heap.size) #[] #[]])++n9) awk
  (by
   have SY:a.eval (.const (.func (.yield w1.heap.size) #[] #[]))= .func (.yield w1.heap.size) #[] #[]:=rfl;simp [resolve,rangeCall,hg,Deferred.ofValue,SY];rfl) (Le hC.1 _ _)
 obtain⟨E,w3,fr,⟨r,h3,φ3,hk3,hE3,hN3,H3,Lf⟩,Lg,oW,Lh⟩:=hC.2 _ _ _ oV H1 (b.atR {a with defers:=mark++a.defers} (.inRangeFunc w1.heap.size::todo)::cs);have hE:Ext N φ φ3:=(yt.mono hN).trans hE3 (zay hN (za5 _));have hNN:N≤h3.nx:=by have:h1.nx+1≤h3.nx:=hN3;omega
 have ajQ:DL φ3 df ({a with defers:=mark++a.defers}:Act).defers:=Ch.ext hE;cases r with
 | bC v=>
  obtain⟨v',rfl,pJ⟩:=Lf;refine⟨.bC v,⟨s.tm,df,s.rc,h3⟩,φ3,cs,{a with defers:=mark++a.defers},w3,hk3,hE,hNN,⟨ajQ,oh.ext hE,H3⟩,⟨.inRangeFunc w1.heap.size::todo,v',pJ,.head vP (Steps.trans Lg (.one ?_))⟩⟩;have:=step_leave_panicked (c:=b.atR {a with defers:=mark++a.defers} (.inRangeFunc w1.heap.size::todo)) (cs:=cs) Lh;rw [Frame.raise_atR]at this;exact this
 | ret v=>
  obtain⟨v',rfl,pJ⟩:=Lf;have xa:=step_leave_returned (c:=b.atR {a with defers:=mark++a.defers} (.inRangeFunc w1.heap.size::todo)) (cs:=cs) Lh;rw [finish_atR_inRangeFunc]at xa;obtain⟨lp,SZ,hk4⟩:=Lu hk3;obtain⟨S4,hk5⟩:=dX hk4;obtain⟨ob2,awl,hk6⟩:=uQ hk5;have awm:φ3 h1.nx≠none:=hE3.bt (by rw [o3];simp);obtain⟨b2,d2,n2,S5,hl2,hl3,S6,hl5⟩:=H3.loop awm SZ
  have qn:b2=w1.heap.size:=by
   have:=hE3.live (by rw [o3];simp) hl2;rw [o3]at this;cases this;rfl
  subst qn
  have awn:S5.state≠.busy:=by
   rw [S6.state];intro hh;rw [hh]at S4;cases S4
  have S7:=stepR_endRangeFunc (P:=P) (b:=b) (a:={a with defers:=mark++a.defers}) (k:=todo) (cs:=cs) (run_endLoop hl3 awn);have hLu:=S6.nK .exhausted lp.gq;rw [show({S5 with state:=.exhausted,pending:=lp.gq}:Loop)={S5 with state:=.exhausted}from by rw [←S6.gq]]at hLu;have H4:=H3.abE hl2 hl3 hl5 awl hLu;refine(awi (l:=0) (φ:=φ3) (a:={a with defers:=mark++a.defers}) (N:=h3.nx) hk6 ⟨⟨ajQ,oh.ext hE,H4⟩,ik.ext hE⟩ (zad _) (m:=lone (b.atR {a with defers:=mark++a.defers} ((S5.pending.map Item.code).toList++todo)) cs _) ?_).of_steps hE hNN (.head vP (Steps.trans Lg (.head xa (.one S7))));rw [S6.gq];exact Steps.refl _ _
theorem awo {rec}(eQ:∀t,rec t=true→fS P w0 t){g:Operand}{g':gp}{ps:Array Tmp}{assign body:Code}{x y:fw}
 (hg:vK g=some g') (jL:∀t∈ps.toList,t<e.nt) (hx:kR P e.nt assign=some x) (hy:kR P e.nt body=some y) (hs:SR P w0 φ e s b cs0 cs a w) (he:sc φ e b)
 (h:ajR rec e s k g' (ps.toList.map Pos.of) x y=true):mW P w0 φ s.h.nx e b cs0 (lone (b.atR a (.code (.rangeFunc g ps assign body)::todo)) cs w) todo k:=by
 obtain⟨v,hv,h1⟩:=abz (a:=a) (s:=s) (φ:=φ) hg (fun p _=>hs.tm.2 p) h;rcases abx h1 with⟨gf,first,dm,rfl,h2⟩ | ⟨l,rfl,h2⟩
 · generalize hgv:a.eval g=gv at hv;cases hv with
   | func _ Af _ oY _ n9 oW E8 E9=>
    cases oW;obtain⟨hb,yp⟩:=he;cases hrn:e.Cc with
    | none=>
     rw [hrn]at h2 yp;have HO:b.roundOf=none:=yp;obtain⟨bU,ee,h3⟩:=B8 h2;obtain⟨H1,yt⟩:=hs.heap.new ee (.defs 0 0 false);have o3:(φ.put s.h.nx (.live w.heap.size 0 0)) s.h.nx=some (.live w.heap.size 0 0):=aY.me _ _ _;refine(ajP (φ:=φ.put s.h.nx (.live w.heap.size 0 0)) (N:=s.h.nx+1) (w:=w) (w1:=w.alloc (.deferred (some []))) (mark:=[{target:=.collected w.heap.size,args:= #[]}]) (dl':=w.heap.size) eQ jL hx hy hgv (LR.ext yt E8) (LR.ext yt E9) hb (hs.tm.ext yt) ?_ (hs.rc.ext yt) H1 (by rw [o3];simp) (fun b d n hh=>by rw [o3]at hh;cases hh;rfl) (zad _) ?_ h3).of_steps yt (za5 _) (Steps.refl _ _)
     · exact .cons _ _ _ _ ⟨by rw [o3];simp,w.heap.size,rfl,fun b d n hh=>by rw [o3]at hh;cases hh;rfl⟩ (hs.df.ext yt)
     · rw [HO,run_enterLoop_outer,World.size_alloc]
    | some l=>
     rw [hrn]at h2 yp;obtain⟨hk,l',kS,hφ,awp⟩:=yp;obtain⟨r,Cj,h3⟩:=Lu h2;obtain⟨bl,d,n,r',e1,e2,e3,e4⟩:=hs.heap.loop hφ Cj;have:l'=bl:=awp _ _ _ e1;subst this;refine ajP (φ:=φ) (w:=w) (w1:=w) (mark:=[]) (dl':=r'.defers) eQ jL hx hy hgv E8 E9 hb hs.tm hs.df hs.rc hs.heap e3.defs (fun b d n hh=>e3.abD b d n hh) (zad _) ?_ h3;rw [kS,awg e2]
 · cases h2
theorem ajS (abG:ajN P w0){rec:Task→Bool}(eQ:∀t,rec t=true→fS P w0 t):∀(c:Code) (ac:fw) (e:Env) (s:St) (k:KS),kR P e.nt c=some ac→abH rec ac e s k=true→
 ∀(φ:aY) (b:Frame) (cs0 cs:List Frame) (a:Act) (w:World),SR P w0 φ e s b cs0 cs a w→sc φ e b→∀it,abu c it→∀todo,mW P w0 φ s.h.nx e b cs0 (lone (b.atR a (it::todo)) cs w) todo k:=by
 intro c
 induction c with
 | skip=>
  intro ac e s k hc h φ b cs0 cs a w hs he it kr todo;rcases kr with rfl | ⟨c',jf,_⟩
  · cases hc;exact⟨.normal,s,φ,cs,a,w,h,Ext.refl _ _,zad _,hs,.one stepR_skip⟩
  · cases jf
 | label l=>
  intro ac e s k hc h φ b cs0 cs a w hs he it kr todo;rcases kr with rfl | ⟨c',jf,_⟩
  · cases hc;exact⟨.normal,s,φ,cs,a,w,h,Ext.refl _ _,zad _,hs,.one stepR_label⟩
  · cases jf
 | region id ops draw=>
  intro ac e s k hc h φ b cs0 cs a w hs he it kr todo;rcases kr with rfl | ⟨c',jf,_⟩
  · cases draw with
    | false=>
     simp only [kR,zbx]at hc;obtain⟨l,hl,rfl⟩:=hc;exact(awf eQ (awd hl) hs he h).of_steps (Ext.refl _ _) (zad _) (.one stepR_region)
    | true=>
     simp only [kR]at hc;split at hc
     · rename_i l hl;split at hc
       · rename_i dl Ci;cases hc;exact abG rec eQ e b cs0 todo k id ops l dl hl Ci φ s cs a w hs he h
       · cases hc;exact Bool.noConfusion (show false=true from h)
     · cases hc
  · cases jf
 | seq c1 c2 HT ih2=>
  intro ac e s k hc h φ b cs0 cs a w hs he it kr todo;rcases kr with rfl | ⟨c',jf,_⟩
  · simp only [kR]at hc;split at hc
    · rename_i x y hx hy;cases hc;have hC:fS P w0 (.code x e s (Lq rec y e k)):=eQ _ h;have g:=hC c1 hx φ b cs0 cs a w hs he _ (.inl rfl) (.code c2::todo);exact(ajO eQ hy (.inl rfl) (fun _=>by simp [exitTo]) he g).of_steps (Ext.refl _ _) (zad _) (.one stepR_seq)
    · cases hc
  · cases jf
 | cond c c1 c2 HT ih2=>
  intro ac e s k hc h φ b cs0 cs a w hs he it kr todo;rcases kr with rfl | ⟨c',jf,_⟩
  · simp only [kR]at hc;split at hc
    · rename_i c0 x y E6 hx hy;cases hc;obtain⟨v,hv,h1⟩:=abz (a:=a) (s:=s) (φ:=φ) E6 (fun p _=>hs.tm.2 p) h;obtain⟨t,rfl,h2⟩:=Lv h1;have SY:=VR.yi hv;cases t with
      | true=>
       have hC:fS P w0 (.code x e s k):=eQ _ h2;exact(hC c1 hx φ b cs0 cs a w hs he _ (.inl rfl) todo).of_steps (Ext.refl _ _) (zad _) (.one (stepR_cond SY))
      | false=>
       have hC:fS P w0 (.code y e s k):=eQ _ h2;exact(hC c2 hy φ b cs0 cs a w hs he _ (.inl rfl) todo).of_steps (Ext.refl _ _) (zad _) (.one (stepR_cond SY))
    · cases hc
  · cases jf
 | block id c1 HT=>
  intro ac e s k hc h φ b cs0 cs a w hs he it kr todo;rcases kr with rfl | ⟨c',jf,_⟩
  · simp only [kR,zbx]at hc;obtain⟨x,hx,rfl⟩:=hc;have hC:fS P w0 (.code x e s (abC id k)):=eQ _ h;exact(awh (hC c1 hx φ b cs0 cs a w hs he _ (.inl rfl) (.inBlock id::todo))).of_steps (Ext.refl _ _) (zad _) (.one stepR_block)
  · cases jf
 | loop c1 HT=>
  intro ac e s k hc h φ b cs0 cs a w hs he it kr todo;have E6:=hc;simp only [kR,zbx]at hc;obtain⟨x,hx,rfl⟩:=hc;have hC:fS P w0 (.code x e s (Lq rec (.loop x) e k)):=eQ _ h;have g:=ajO (c2:=.loop c1) eQ E6 (.inr ⟨c1,rfl,rfl⟩) (fun _=>by simp [exitTo]) he (hC c1 hx φ b cs0 cs a w hs he _ (.inl rfl) (.inLoop c1::todo));rcases kr with rfl | ⟨c',jf,rfl⟩
  · exact g.of_steps (Ext.refl _ _) (zad _) (.one stepR_loop)
  · cases jf;exact g.of_steps (Ext.refl _ _) (zad _) (.one stepR_inLoop)
 | scope c1 HT=>
  intro ac e s k hc h φ b cs0 cs a w hs he it kr todo;rcases kr with rfl | ⟨c',jf,_⟩
  · have g:=HT ac e s k (by simpa only [kR]using hc) h φ b cs0 cs a w hs he _ (.inl rfl) (.inScope c1::todo);refine mW.of_steps (Ext.refl _ _) (zad _) (.one step_scope) (g.bind fun x s1 φ1 iV a1 w1 h1 h2 h3 h4 h5=>?_);cases x with
    | normal=>exact⟨.normal,s1,φ1,iV,a1,w1,h1,h2,h3,h4,Steps.trans h5 (.one step_inScope)⟩
    | exit id=>obtain⟨k1,h6,h7⟩:=h5;exact⟨.exit id,s1,φ1,iV,a1,w1,h1,h2,h3,h4,k1,by rw [h6];simp [exitTo],h7⟩
    | ret=>exact⟨.ret,s1,φ1,iV,a1,w1,h1,h2,h3,h4,h5⟩
    | bC v=>exact⟨.bC v,s1,φ1,iV,a1,w1,h1,h2,h3,h4,h5⟩
  · cases jf
 | rangeFunc g ps c1 c2 HT ih2=>
  intro ac e s k hc h φ b cs0 cs a w hs he it kr todo;rcases kr with rfl | ⟨c',jf,_⟩
  · simp only [kR]at hc;split at hc
    · rename_i g' x y hg hx hy;split at hc
      · rename_i jL;cases hc;exact awo eQ hg (fun t ht=>by simpa using List.all_eq_true.1 jL t ht) hx hy hs he h
      · cases hc
    · cases hc
  · cases jf
 | exit id=>
  intro ac e s k hc h φ b cs0 cs a w hs he it kr todo;rcases kr with rfl | ⟨c',jf,_⟩
  · cases hc;exact⟨.exit id,s,φ,cs,a,w,h,Ext.refl _ _,zad _,hs,todo,rfl,Steps.refl _ _⟩
  · cases jf
 | ret=>
  intro ac e s k hc h φ b cs0 cs a w hs he it kr todo;rcases kr with rfl | ⟨c',jf,_⟩
  · cases hc;exact⟨.ret,s,φ,cs,a,w,h,Ext.refl _ _,zad _,hs,todo,Steps.refl _ _⟩
  · cases jf
 | goto l=>intro ac e s k hc h;cases hc;exact Bool.noConfusion (show false=true from h)
 | refuse why=>intro ac e s k hc h;cases hc;exact Bool.noConfusion (show false=true from h)
end
section
variable {P:Program}{w0 w:World}{φ:aY}{h:AH}
theorem abI {f af}(h:c7 P f=some af):∃fn c,P.funcs[f]? =some fn∧Can P f∧fn.body=some c∧fn.results.toList.mapM (yu P)=some af.results∧kR P fn.ntmps c=some af.code∧af.ntmps=fn.ntmps:=by
 unfold c7 at h;split at h
 · cases h
 · rename_i fn hf;split at h
   · cases h
   · rename_i hn;split at h
     · cases h
     · rename_i c hb;split at h
       · rename_i rs ac hr hc;cases h;exact⟨fn,c,hf,⟨fn,hf,by simpa using hn,by simp [hb]⟩,hb,hr,hc,rfl⟩
       · cases h
theorem ajT:∀(vs:ZZE){i:Nat}{t:PT}{k:PT→Bool},Au i vs t k=true→∃t',k t'=true∧∀p:Pos,t'.get p=if i≤p.un∧p.un<i+vs.length then vs.getD (p.un-i) undef else t.get p:=by
 intro vs
 induction vs with
 | nil=>intro i t k h;exact⟨t,h,fun p=>by rw [if_neg (by simp)]⟩
 | cons v vs ih=>
  intro i t k h;have h':PT.lh (Pos.of i) t v (fun t=>Au (i+1) vs t k)=true:=h;rw [PT.rZ]at h';obtain⟨t',h1,h2⟩:=ih h';refine⟨t',h1,fun p=>?_⟩;rw [h2,PT.fR]
  by_cases h3:p.un=i
  · have hp:p=Pos.of i:=Pos.B2 (by rw [Pos.qU];exact h3);rw [if_neg (by omega),if_pos hp,if_pos (by simp;omega)];simp [h3]
  · have hp:¬p=Pos.of i:=fun e=>h3 (by rw [e,Pos.qU])
    by_cases h4:i+1≤p.un∧p.un<i+1+vs.length
    · rw [if_pos h4,if_pos (by simp;omega)];have:p.un-i=(p.un-(i+1))+1:=by omega
      rw [this];simp
    · rw [if_neg h4,if_neg hp,if_neg (by simp;omega)]
theorem ajU {args args' t n}(hl:LR φ args args'.toList)(ht:∀p:Pos,t.get p=if 0≤p.un∧p.un<0+args.length then args.getD (p.un-0) undef else PT.e.get p):
 TR φ t n (args'++Array.replicate (n-args'.size) undef):=by
 have hlen:args.length=args'.size:=by rw [hl.length];simp
 refine⟨by simp;omega,fun p=>?_⟩;rw [ht p]
 by_cases h:p.un<args.length
 · rw [if_pos (by omega)];have h1:args[p.un]? =some args[p.un]:=by simp [h]
   obtain⟨v',h2,h3⟩:=hl.get _ _ h1
   have h4:(args'++Array.replicate (n-args'.size) undef).getD p.un undef=v':=by
    rw [zbb,Array.getElem?_append_left (by omega)];rw [←Array.getElem?_toList,h2];rfl
   rw [h4];have h5:args.getD (p.un-0) undef=args[p.un]:=by simp [h]
   rw [h5];exact h3
 · rw [if_neg (by omega),PT.aiZ]
   have h4:(args'++Array.replicate (n-args'.size) undef).getD p.un undef=undef:=by
    rw [zbb,Array.getElem?_append_right (by omega)]
    by_cases h6:p.un-args'.size<n-args'.size
    · simp [Array.getElem?_replicate,h6]
    · rw [Array.getElem?_eq_none (by simp;omega)];rfl
   rw [h4];exact VR.undef φ
theorem awq {t d n x a}(hu:P.underlying t=some d)(hd:sd d=true)(hz:iN P t=some n)(H:HR P w0 φ h w)(hv:VR φ x (.pointer (some a))){k:ZZE→Bool}
 (e:mB x (fun b o=>pL h b o n k)=true):∃l l',(loadVar t a).run P w= .ok (.agg l') w∧LR φ l l'.toList∧k l=true:=by
 obtain⟨i,hi,rfl⟩:=qZ hz;obtain⟨a0,aM,e'⟩:=qY e;clear e;subst aM;have e:=e';clear e';obtain⟨a',ha,hs,eU⟩:=hv.oZ;cases ha;obtain⟨lo,S8,ty,rw,c,l,h1,h2,h3,h4,h5,h6⟩:=B7 e;obtain⟨l',hl,dT⟩:=H.cells hs eU h1 h2 (by omega) h5;refine⟨l,l'.toArray,?_,by simpa using hl,h6⟩;rw [h4]at dT;simp [loadVar,Av hu,hd,nJ hi,dT w rfl]
theorem awr {t d x a}(hu:P.underlying t=some d)(hd:sd d=false)(H:HR P w0 φ h w)(hv:VR φ x (.pointer (some a))){k:Z→Bool}
 (e:mB x (fun b o=>yw h b o k)=true):∃v v',(loadVar t a).run P w= .ok v' w∧VR φ v v'∧k v=true:=by
 obtain⟨a0,aM,e'⟩:=qY e;clear e;subst aM;have e:=e';clear e';obtain⟨a',ha,hs,eU⟩:=hv.oZ;cases ha;obtain⟨lo,hi,ty,rw,c,v,h1,h2,h3,h4,h5⟩:=S9 e;obtain⟨v',hc,Lw⟩:=H.cell hs eU h1 (j:=0) (by omega) (by omega) (by simpa using h4);refine⟨v,v',?_,Lw,h5⟩;have:a.add 0=a:=rfl;rw [this]at hc;simp [loadVar,Av hu,hd,hc]
def HU (tmps:Array Z):ResultVar→Sem Z
 | .tmp t=>pure (tmps.getD t undef)
 | .cell a t=>do loadVar t (←asAddr (tmps.getD a undef))
theorem aws (fn:Func)(tmps:Array Z):results fn tmps=(do let vs←fn.results.mapM (HU tmps);pure (if h:vs.size=1 then vs[0]else .tuple vs)):=by
 unfold results
 congr 1
theorem awt {tmps tm n}(ht:TR φ tm n tmps)(H:HR P w0 φ h w):∀{rs:List ResultVar}{as:List qV}{k:ZZE→Bool},rs.mapM (yu P)=some as→qo as tm h k=true→
 ∃vs mf,(rs.mapM (HU tmps)).run P w= .ok mf w∧LR φ vs mf∧k vs=true:=by
 intro rs
 induction rs with
 | nil=>intro as k hm h;simp at hm;subst hm;exact⟨[],[],by simp [Sem.run],.nil,h⟩
 | cons r rs ih=>
  intro as k hm hk;rw [List.mapM_cons]at hm;cases hr:yu P r with
  | none=>simp [hr]at hm
  | some a=>
   cases Ck:rs.mapM (yu P)with
   | none=>simp [hr,Ck]at hm
   | some yo=>
    simp [hr,Ck]at hm;subst hm
    have key:∃v v',(HU tmps r).run P w= .ok v' w∧VR φ v v'∧qo yo tm h (fun vs=>k (v::vs))=true:=by
     cases r with
     | tmp t=>
      cases hr;have ij:PT.fY (Pos.of t) tm (fun v=>qo yo tm h fun vs=>k (v::vs))=true:=hk;rw [PT.oX]at ij;have:=ht.2 (Pos.of t);rw [Pos.qU]at this;exact⟨_,_,by simp [HU,Sem.run],this,ij⟩
     | cell ad t=>
      simp only [yu]at hr;split at hr
      · rename_i d s hu hs;have hv:=ht.2 (Pos.of ad);rw [Pos.qU]at hv;split at hr
        · rename_i hd;cases hr;have ij:PT.fY (Pos.of ad) tm (fun v=>mB v fun b o=>pL h b o s fun l=>qo yo tm h fun vs=>k (.agg ⟨l⟩::vs))=true:=hk;rw [PT.oX]at ij;obtain⟨a0,hp,_⟩:=qY ij;have uR:=hv;rw [hp]at uR;obtain⟨a',ha,_⟩:=uR.oZ;rw [ha]at hv;obtain⟨l,l',h1,h2,h3⟩:=awq hu hd hs H hv ij;exact⟨.agg ⟨l⟩,.agg l',by simp [HU,ha,asAddr,Sem.run_bind,Result.andThen,h1],.agg _ _ h2,h3⟩
        · rename_i hd;cases hr;have ij:PT.fY (Pos.of ad) tm (fun v=>mB v fun b o=>yw h b o fun x=>qo yo tm h fun vs=>k (x::vs))=true:=hk;rw [PT.oX]at ij;obtain⟨a0,hp,_⟩:=qY ij;have uR:=hv;rw [hp]at uR;obtain⟨a',ha,_⟩:=uR.oZ;rw [ha]at hv;obtain⟨v,v',h1,h2,h3⟩:=awr hu (by simpa using hd) H hv ij;exact⟨v,v',by simp [HU,ha,asAddr,Sem.run_bind,Result.andThen,h1],h2,h3⟩
      · cases hr
    obtain⟨v,v',h1,h2,h3⟩:=key;obtain⟨vs,mf,h4,h5,h6⟩:=ih Ck h3;refine⟨v::vs,v'::mf,?_,.cons _ _ _ _ h2 h5,h6⟩;rw [List.mapM_cons];simp [Sem.run_bind,h1,h4,Result.andThen,Sem.run]
theorem awu {vs k}(h:Lx vs k=true):∃v,(vs=[v]∨((∀x,vs≠[x])∧v= .tuple ⟨vs⟩))∧k v=true:=by
 match vs with
 | []=>exact⟨_,.inr ⟨fun x hx=>(by cases hx),rfl⟩,h⟩
 | [v]=>exact⟨v,.inl rfl,h⟩
 | a::b::l=>exact⟨_,.inr ⟨fun x hx=>(by cases hx),rfl⟩,h⟩
theorem ajV {fn tmps tm n as k}(ht:TR φ tm n tmps)(H:HR P w0 φ h w)(hm:fn.results.toList.mapM (yu P)=some as)(hk:qo as tm h (fun vs=>Lx vs k)=true):
 ∃v v',(results fn tmps).run P w= .ok v' w∧VR φ v v'∧k v=true:=by
 obtain⟨vs,mf,h1,h2,h3⟩:=awt ht H hm hk;obtain⟨v,h4,h5⟩:=awu h3;rw [aws,Array.mapM_eq_mapM_toList];refine⟨v,if h:mf.toArray.size=1 then mf.toArray[0]else .tuple mf.toArray,?_,?_,h5⟩
 · simp only [Sem.run_bind,map_eq_pure_bind,h1,Result.andThen,Sem.run_pure]
 · rcases h4 with rfl | ⟨eM,rfl⟩
   · obtain⟨x',hx,hv⟩:=LR.one h2;subst hx;simpa using hv
   · have hl:=h2.length;rw [dif_neg]
     · exact .ko _ _ h2
     · intro je;simp at je;rw [←hl]at je;obtain⟨x,hx⟩:=List.length_eq_one_iff.1 je;exact eM x hx
theorem Cd.abJ {m u}(h:Cd φ m u):u≠.run:=by
 cases m with
 | none=>intro e;rw [show u= .returning from h]at e;cases e
 | some v=>obtain⟨v',rfl,_⟩:=h;intro e;cases e
theorem DL.cons_inv {d l l'}(h:DL φ (d::l) l'):∃d' m,l'=d'::m∧DR φ d d'∧DL φ l m:=by
 cases h with | cons _ d' _ m h1 h2=>exact⟨d',m,rfl,h1,h2⟩
theorem DL.E0 {l'}(h:DL φ [] l'):l'=[]:=by cases h;rfl
theorem abK {rec}(eQ:∀t,rec t=true→fS P w0 t){ds:List iS}{m:Option Z}{k:Option Z→AH→Bool}(e:abL rec ds m h k=true):tx P w0 ds m h k:=by
 intro φ fr cs w hd hm H;cases ds with
 | nil=>
  have h0:=hd.E0;refine⟨m,h,φ,w,fr.mode,e,Ext.refl _ _,zad _,H,hm,?_⟩;have:({fr with defers:=[],mode:=fr.mode}:Frame)=fr:=by rw [←h0]
  rw [this];exact Steps.refl _ _
 | cons d ds=>
  obtain⟨d',og,hfd,hdr,EN⟩:=hd.cons_inv;cases d with
  | wY r=>
   obtain⟨t,h1,e1⟩:=awv (show HV h r _=true from e);obtain⟨ht,e2⟩:=dX e1;cases t with
   | true=>cases ht
   | false=>
    obtain⟨bU,ee,e3⟩:=uQ e2;obtain⟨Cj,r',rfl,hr2⟩:=hdr;obtain⟨b,dd,n,o',q1,q2,q3,q4⟩:=H.live Cj h1;have hb:=hr2 _ _ _ q1;subst hb;cases q3 with
    | defs _ _ _=>
     have cy:r'<w.heap.size:=(Array.getElem?_eq_some_iff.1 q2).1
     have H2:HR P w0 φ ⟨h.nx,bU⟩ (w.putObj r' (.deferred none)):=
      H.nK (h':=⟨h.nx,bU⟩) q1 ee rfl (.defs dd n true) (q4 rfl) (World.putObj_heap_same cy) (fun k hk=>World.putObj_heap_other hk) World.putObj_size rfl rfl rfl
     have vP:=step_collected (P:=P) (fr:=fr) (cs:=cs) (Cd.abJ hm) hfd rfl (run_takeDeferred q2);have hL:tx P w0 ds m ⟨h.nx,bU⟩ k:=eQ _ e3;obtain⟨m',h',φ',w',u,a1,a2,a3,a4,a5,a6⟩:=hL φ {fr with defers:=[]++og} cs _ EN hm H2;exact⟨m',h',φ',w',u,a1,a2,a3,a4,a5,.head vP a6⟩
  | fn f args=>
   obtain⟨dm,args',rfl,hl⟩:=hdr;cases m with
   | none=>
    have e1:rec (.HN f args .off h fun _ h=>rec (.leave ds none h k))=true:=e;have hD:SN P w0 f args .off h (fun _ h=>rec (.leave ds none h k)):=eQ _ e1;have abM:fr.mode= .returning:=hm;have vP:=step_defer (P:=P) (w:=w) (fr:=fr) (cs:=cs) (Cd.abJ hm) hfd rfl (Le hD.1 _ _);obtain⟨HM,h',φ',w',c',xb,v,a1,a2,a3,a4,a5,a6,a7,a8⟩:=hD.2 φ _ w {fr with defers:=og} cs hl H abM
    have jf:c'={fr with defers:=og}:=by
     cases HM with
     | off=>exact a5.1
     | can v=>exact a5.1
     | q7=>obtain⟨v',pJ,_⟩:=a5;rw [show({fr with defers:=og}:Frame).mode= .returning from abM]at pJ;cases pJ
    subst jf;have xa:=step_going_returned (P:=P) (c:={fr with defers:=og}) (cs:=cs) a7 a8;have ee:settle ({fr with defers:=og}:Frame).mode= .returning:=by rw [show({fr with defers:=og}:Frame).mode= .returning from abM];rfl
    rw [ee]at xa;have hL:tx P w0 ds none h' k:=eQ _ a1;obtain⟨m',h2,φ2,w2,u,b1,b2,b3,b4,b5,b6⟩:=hL φ' ({fr with defers:=og,mode:=.returning}:Frame) cs w' (EN.ext a2) rfl a4;exact⟨m',h2,φ2,w2,u,b1,a2.trans b2 a3,zay a3 b3,b4,b5,.head vP (Steps.trans a6 (.head xa b6))⟩
   | some v=>
    have e1:rec (.HN f args (.can v) h (abN rec ds k))=true:=e;have hD:SN P w0 f args (.can v) h (abN rec ds k):=eQ _ e1;have vP:=step_defer (P:=P) (w:=w) (fr:=fr) (cs:=cs) (Cd.abJ hm) hfd rfl (Le hD.1 _ _);obtain⟨HM,h',φ',w',c',xb,v2,a1,a2,a3,a4,a5,a6,a7,a8⟩:=hD.2 φ _ w {fr with defers:=og} cs hl H hm;have xa:=step_going_returned (P:=P) (c:=c') (cs:=cs) a7 a8;cases HM with
    | off=>cases a1
    | can v3=>
     obtain⟨rfl,v',q1,q2⟩:=a5;have ee:settle ({fr with defers:=og}:Frame).mode= .panicking [{v:=v',recovered:=false}]:=by rw [q1];rfl
     rw [ee]at xa;have hL:tx P w0 ds (some v3) h' k:=eQ _ a1;obtain⟨m',h2,φ2,w2,u,b1,b2,b3,b4,b5,b6⟩:=hL φ' ({fr with defers:=og,mode:=.panicking [{v:=v',recovered:=false}]}:Frame) cs w' (EN.ext a2) ⟨v',rfl,q2⟩ a4;exact⟨m',h2,φ2,w2,u,b1,a2.trans b2 a3,zay a3 b3,b4,b5,.head vP (Steps.trans a6 (.head xa b6))⟩
    | q7=>
     obtain⟨v',q1,rfl⟩:=a5;have hL:tx P w0 ds none h' k:=eQ _ a1;obtain⟨m',h2,φ2,w2,u,b1,b2,b3,b4,b5,b6⟩:=hL φ' ({fr with defers:=og,mode:=.returning}:Frame) cs w' (EN.ext a2) rfl a4;exact⟨m',h2,φ2,w2,u,b1,a2.trans b2 a3,zay a3 b3,b4,b5,.head vP (Steps.trans a6 (.head xa b6))⟩
def q8 (f:FuncId) (kind:CallKind):Frame:={(default:Frame)with fn:=f,kind,roundOf:=none}
theorem ajW {f fn c}(hf:P.funcs[f]? =some fn)(hb:fn.body=some c)(args:Array Z)(kind:CallKind):
 Frame.enter P f args kind=(q8 f kind).atR {tmps:=args++Array.replicate (fn.ntmps-args.size) undef,defers:=[]} [.code c]:=by
 simp [Frame.enter,Frame.atR,hf,hb,q8]
variable {prog:NT lv}
theorem Ao.normal {rc b cs0 cs}(h:Ao φ rc b cs0 cs)(hb:b.kind= .normal):cs=cs0:=by
 cases rc with
 | off=>exact h.1
 | can v=>exact h.1
 | q7=>have h1:=h.1;rw [hb]at h1;cases h1
theorem abO {N:Nat}{f:FuncId}{fn:Func}{k:CR→AH→Bool}{fr:Frame}{cs:List Frame}{ds:List iS}{m:Option Z}{kl:Option Z→AH→Bool}{m0:Machine}
 (hL:tx P w0 ds m h kl) (hd:DL φ ds fr.defers) (hm:Cd φ m fr.mode) (H:HR P w0 φ h w) (oW:fr.fn=f) (hf:P.funcs[f]? =some fn) (aww:fr.kind= .normal) (mV:Steps P m0 (lone fr cs w)) (hN:N≤h.nx)
 (Fa:∀m' h',kl m' h'=true→(∃v,m'=some v∧k (.bC v) h'=true)∨(m'=none∧(∀φ' w',Ext h.nx φ φ'→HR P w0 φ' h' w'→∃v v',(Go.results fn fr.tmps).run P w'= .ok v' w'∧VR φ' v v'∧k (.ret v) h'=true))):
 ∃E w' xb,(∃r h' φ',k r h'=true∧Ext N φ φ'∧N≤h'.nx∧HR P w0 φ' h' w'∧La φ' r E)∧Comes P m0 (lone xb cs w') E∧xb.fn=f∧xb.leaving P w' E:=by
 obtain⟨m',h',φ',w',u,a1,a2,a3,a4,a5,a6⟩:=hL φ fr cs w hd hm H;rcases Fa m' h' a1 with⟨v,rfl,hk⟩ | ⟨rfl,hk⟩
 · obtain⟨v',rfl,hv⟩:=a5;exact⟨.panicked [{v:=v',recovered:=false}],w',{fr with defers:=[],mode:=.panicking [{v:=v',recovered:=false}]},⟨.bC v,h',φ',hk,a2.mono hN,zay hN a3,a4,v',rfl,hv⟩,Steps.trans mV a6,oW,rfl,rfl,fn,by rw [←hf,←oW]⟩
 · have hu:u= .returning:=a5;subst hu;obtain⟨v,v',b1,b2,b3⟩:=hk φ' w' a2 a4;exact⟨.returned v',w',{fr with defers:=[],mode:=.returning},⟨.ret v,h',φ',b3,a2.mono hN,zay hN a3,a4,v',rfl,b2⟩,Steps.trans mV a6,oW,rfl,rfl,aww,fn,by rw [←hf,←oW],b1⟩
theorem results_none {fn}(hm:fn.results.toList.mapM (yu P)=some [])(tmps:Array Z)(w:World):(results fn tmps).run P w= .ok (.tuple #[]) w:=by
 have:fn.results= #[]:=by
  cases hl:fn.results.toList with
  | nil=>exact Array.toList_eq_nil_iff.1 hl
  | cons r rs=>
   rw [hl,List.mapM_cons]at hm;cases hr:yu P r with
   | none=>simp [hr]at hm
   | some a=>
    cases Ck:rs.mapM (yu P)with
    | none=>simp [hr,Ck]at hm
    | some yo=>simp [hr,Ck]at hm
 simp [results,this,Sem.run_bind,Result.andThen]
theorem HR.forget (H:HR P w0 φ h w){f:Nat}(hf:φ f=none){h':AH}(ee:h.ob.mU f none h'.ob)(nM:h'.nx=h.nx):HR P w0 φ h' w:=by
 refine⟨H.inj,by rw [nM];exact H.fresh,fun g hg=>?_,fun g hg=>?_,fun g b d n hg=>?_,H.below⟩
 · rw [nM]at hg
   by_cases fT:g=f
   · subst fT;exact ee.1
   · rw [ee.2 g fT];exact H.top g hg
 · have fT:g≠f:=fun e=>by subst e;rw [hf]at hg;cases hg
   rw [ee.2 g fT];exact H.dead g hg
 · have fT:g≠f:=fun e=>by subst e;rw [hf]at hg;cases hg
   obtain⟨o1,o2,a1,a2⟩:=H.obj g b d n hg;exact⟨o1,o2,by rw [ee.2 g fT];exact a1,a2⟩
theorem Ta {bt}:∀(n:Nat){b:Nat}{φ:aY}{h:AH}{k:AH→Bool},HR P w0 φ h w→Tb bt n b h k=true→∃φ' h',k h'=true∧HR P w0 φ' h' w∧h'.nx=h.nx∧∀N,Ext N φ φ'
 | 0,b,φ,h,k,H,e=>⟨φ,h,e,H,rfl,fun N=>Ext.refl N φ⟩
 | n+1,b,φ,h,k,H,e=>by
  have e1:fN (Nat.succ b) (fun b'=>bif yx bt b then Tb bt n b' h k else kQ h b none fun h=>Tb bt n b' h k)=true:=e;rw [dG]at e1;cases hm:yx bt b with
  | true=>rw [hm,zam]at e1;exact Ta n H e1
  | false=>
   rw [hm,zak]at e1;obtain⟨bU,h1,h2⟩:=uQ e1
   by_cases hb:φ b=none
   · obtain⟨φ',h',a1,a2,a3,a4⟩:=Ta n (H.forget (h':=⟨h.nx,bU⟩) hb h1 rfl) h2;exact⟨φ',h',a1,a2,a3,a4⟩
   · obtain⟨φ',h',a1,a2,a3,a4⟩:=Ta n (H.kill (h':=⟨h.nx,bU⟩) hb h1 rfl) h2;exact⟨φ',h',a1,a2,a3,fun N=>(aY.Tc φ N b hb).trans (a4 N) (zad _)⟩
theorem La.ext {N φ φ'}(hE:Ext N φ φ'){r:CR}{E:_}(h:La φ r E):La φ' r E:=by
 cases r with
 | ret v=>obtain⟨v',h1,h2⟩:=h;exact⟨v',h1,VR.ext hE h2⟩
 | bC v=>obtain⟨v',h1,h2⟩:=h;exact⟨v',h1,VR.ext hE h2⟩
theorem lz.jn {det f args k}(hC:lz P w0 f args h (jn det h k)):lz P w0 f args h k:=by
 refine⟨hC.1,fun φ args' w hl H=>Calls.mono (hC.2 φ args' w hl H) fun E w' hR=>?_⟩;obtain⟨r,h',φ',h1,h2,h3,h4,h5⟩:=hR;cases det with
 | false=>exact⟨r,h',φ',h1,h2,h3,h4,h5⟩
 | true=>
  cases r with
  | bC v=>exact⟨_,h',φ',h1,h2,h3,h4,h5⟩
  | ret v=>
   have h1:jnK h k v h'=true:=h1;unfold jnK at h1;split at h1
   · exact⟨_,h',φ',(dX h1).1,h2,h3,h4,h5⟩
   · rw [dG,dG]at h1;obtain⟨φ2,Aq,a1,a2,a3,a4⟩:=Ta _ h4 h1;exact⟨_,Aq,φ2,(dX a1).1,h2.trans (a4 _) (zad _),by rw [a3];exact h3,a2,h5.ext (a4 0)⟩
def Td (P:Program) (w0:World) (sums:Aw):Prop:=∀p∈sums,∀(args:ZZE) (h:AH) (k:CR→AH→Bool),p.2 args h k=true→lz P w0 p.1 args h k
theorem ajX {rec:Task→Bool}(eQ:∀t,rec t=true→fS P w0 t){f:FuncId}{af:lv}(Ly:c7 P f=some af){args:ZZE}{k:CR→AH→Bool}(e2:Au 0 args .e (fun tm=>rec (.code af.code ⟨f,af.ntmps,none⟩ ⟨tm,[],.off,h⟩ (Lz rec af.results k)))=true):lz P w0 f args h k:=by
 obtain⟨fn,c,hf,kq,hb,vQ,abP,hnt⟩:=abI Ly;obtain⟨tm,e3,ik⟩:=ajT _ e2;refine⟨kq,fun φ args' w hl H cs=>?_⟩;rw [ajW hf hb];have hC:fS P w0 (.code af.code ⟨f,af.ntmps,none⟩ ⟨tm,[],.off,h⟩ (Lz rec af.results k)):=eQ _ e3;rw [hnt]at hC;have hTR:=ajU (n:=fn.ntmps) hl ik;obtain⟨x,s1,φ1,iV,a1,w1,g1,g2,g3,g4,g5⟩:=hC c abP φ (q8 f .normal) cs cs {tmps:=args'++Array.replicate (fn.ntmps-args'.size) undef,defers:=[]} w
  ⟨⟨.nil,⟨rfl,.inl rfl⟩,H⟩,hTR⟩ ⟨rfl,rfl⟩ (.code c) (.inl rfl) []
 have oi:h.nx≤s1.h.nx:=g3;cases x with
 | exit id=>cases g1
 | normal=>
  have ku:SR P w0 φ1 ⟨f,fn.ntmps,none⟩ s1 (q8 f .normal) cs iV a1 w1:=g4;have iM:=ku.rc.normal rfl;subst iM;have hL:tx P w0 s1.df none s1.h (LA af.results s1.tm k):=eQ _ g1
  obtain⟨E,w',xb,⟨r,h',φ',b1,b2,b3,b4,b5⟩,b6,b7,b8⟩:=abO (f:=f) (fn:=fn) (N:=s1.h.nx) (k:=k) (fr:={(q8 f .normal).atR a1 []with mode:=.returning}) (cs:=iV) hL ku.df rfl ku.heap rfl hf rfl (Steps.trans g5 (.one (stepR_end rfl))) (zad _) (fun m' h' hk=>by
   cases m' with
   | some v=>exact .inl ⟨v,rfl,hk⟩
   | none=>exact .inr ⟨rfl,fun φ' w' hE hH=>ajV (ku.tm.ext hE) hH vQ hk⟩)
  exact⟨E,w',xb,⟨r,h',φ',b1,g2.trans b2 oi,zay oi b3,b4,b5⟩,b6,b7,b8⟩
 | ret=>
  obtain⟨k1,g5⟩:=g5;have ku:SR P w0 φ1 ⟨f,fn.ntmps,none⟩ s1 (q8 f .normal) cs iV a1 w1:=g4;have iM:=ku.rc.normal rfl;subst iM;have hL:tx P w0 s1.df none s1.h (LA af.results s1.tm k):=eQ _ g1
  obtain⟨E,w',xb,⟨r,h',φ',b1,b2,b3,b4,b5⟩,b6,b7,b8⟩:=abO (f:=f) (fn:=fn) (N:=s1.h.nx) (k:=k) (fr:={(q8 f .normal).atR a1 (.code .ret::k1)with mode:=.returning}) (cs:=iV) hL ku.df rfl ku.heap rfl hf rfl (Steps.trans g5 (.one (stepR_ret rfl))) (zad _) (fun m' h' hk=>by
   cases m' with
   | some v=>exact .inl ⟨v,rfl,hk⟩
   | none=>exact .inr ⟨rfl,fun φ' w' hE hH=>ajV (ku.tm.ext hE) hH vQ hk⟩)
  exact⟨E,w',xb,⟨r,h',φ',b1,g2.trans b2 oi,zay oi b3,b4,b5⟩,b6,b7,b8⟩
 | bC v=>
  obtain⟨k1,v',hv,g5⟩:=g5;have ku:SQ P w0 φ1 s1 (q8 f .normal) cs iV a1 w1:=g4;have iM:=ku.rc.normal rfl;subst iM;have hL:tx P w0 s1.df (some v) s1.h (ajY af.results k):=eQ _ g1
  obtain⟨E,w',xb,⟨r,h',φ',b1,b2,b3,b4,b5⟩,b6,b7,b8⟩:=abO (f:=f) (fn:=fn) (N:=s1.h.nx) (k:=k) (fr:={(q8 f .normal).atR a1 k1 with mode:=.panicking [{v:=v',recovered:=false}]}) (cs:=iV) hL ku.df ⟨v',rfl,hv⟩ ku.heap rfl hf rfl g5 (zad _) (fun m' h' hk=>by
   cases m' with
   | some v=>exact .inl ⟨v,rfl,hk⟩
   | none=>
    refine .inr ⟨rfl,fun φ' w' hE hH=>?_⟩;have ij:(match af.results with | []=>k (.ret (.tuple ⟨[]⟩)) h' | _=>false)=true:=hk;split at ij
    · rename_i hr;rw [hr]at vQ;exact⟨_,_,results_none vQ _ _,.ko ⟨[]⟩ #[] .nil,ij⟩
    · cases ij)
  exact⟨E,w',xb,⟨r,h',φ',b1,g2.trans b2 oi,zay oi b3,b4,b5⟩,b6,b7,b8⟩
theorem awx (xc:∀f af,prog.get f=some af→c7 P f=some af){rec:Task→Bool}(eQ:∀t,rec t=true→fS P w0 t){f:FuncId}{args:List Value}{k0:CR→AH→Bool}(e:ajZ prog rec f args h k0=true):lz P w0 f args h k0:=by
 obtain⟨af,Ly,e1⟩:=NT.EO _ _ _ (show NT.fY prog f _=true from e);exact lz.jn (det:=af.det) (ajX eQ (xc f af Ly) (by cases af;exact e1))
theorem aj0 (xc:∀f af,prog.get f=some af→c7 P f=some af){rec:Task→Bool}(eQ:∀t,rec t=true→fS P w0 t){f:FuncId}{args:ZZE}{k:CR→AH→Bool}:∀{sums:Aw},Td P w0 sums→Te prog sums rec f args h k=true→lz P w0 f args h k
 | [],_,e=>awx xc eQ e
 | (g,S)::l,hs,e=>by
  have e1:(bif Nat.beq g f then S args h k else Te prog l rec f args h k)=true:=e
  by_cases hg:g=f
  · subst hg;rw [qh rfl,zam]at e1;exact hs _ (.head _) _ _ _ e1
  · rw [jt hg,zak]at e1;exact aj0 xc eQ (fun p hp=>hs p (.tail _ hp)) e1
theorem abQ {df k}(h:Cl df k=true):df=[]∧k=true:=by cases df with | nil=>exact⟨rfl,h⟩ | cons _ _=>cases h
theorem awy (xc:∀f af,prog.get f=some af→c7 P f=some af){rec:Task→Bool}(eQ:∀t,rec t=true→fS P w0 t){f:FuncId}{args:ZZE}{rc:Rc}{k:Rc→AH→Bool}(e:aj1 prog rec f args rc h k=true):SN P w0 f args rc h k:=by
 obtain⟨af,Ly,e1⟩:=NT.EO _ _ _ (show NT.fY prog f _=true from e);obtain⟨fn,c,hf,kq,hb,vQ,abP,hnt⟩:=abI (xc f af Ly)
 have e2:af.results=[]∧Au 0 args .e (fun tm=>rec (.code af.code ⟨f,af.ntmps,none⟩ ⟨tm,[],rc,h⟩ (abR k)))=true:=by
  cases af with
  | mk nt rs code det=>cases rs with
   | nil=>exact⟨rfl,e1⟩
   | cons _ _=>cases e1
 obtain⟨LB,e2⟩:=e2;rw [LB]at vQ;obtain⟨tm,e3,ik⟩:=ajT _ e2;refine⟨kq,fun φ args' w cl cs hl H oh=>?_⟩;rw [ajW hf hb];have hC:fS P w0 (.code af.code ⟨f,af.ntmps,none⟩ ⟨tm,[],rc,h⟩ (abR k)):=eQ _ e3;rw [hnt]at hC;have hTR:=ajU (n:=fn.ntmps) hl ik
 have E4:Ao φ rc (q8 f .deferred) (cl::cs) (cl::cs):=by
  cases rc with
  | off=>exact⟨rfl,.inr ⟨rfl,cl,cs,rfl,oh⟩⟩
  | can v=>obtain⟨v',q1,q2⟩:=oh;exact⟨rfl,rfl,cl,cs,v',rfl,q1,q2⟩
  | q7=>exact oh.elim
 obtain⟨x,s1,φ1,iV,a1,w1,g1,g2,g3,g4,g5⟩:=hC c abP φ (q8 f .deferred) (cl::cs) (cl::cs) {tmps:=args'++Array.replicate (fn.ntmps-args'.size) undef,defers:=[]} w
  ⟨⟨.nil,E4,H⟩,hTR⟩ ⟨rfl,rfl⟩ (.code c) (.inl rfl) []
 have S7:∀{iV:List Frame}{Tf:Rc},Ao φ1 Tf (q8 f .deferred) (cl::cs) iV→∃c',iV=c'::cs∧ajD φ1 Tf cl c':=by
  intro iV Tf hr;cases Tf with
  | off=>
   obtain⟨rfl,hn | ⟨_,c1,rest,hc,hm⟩⟩:=hr
   · cases hn
   · cases hc;exact⟨cl,rfl,rfl,hm⟩
  | can v=>obtain⟨rfl,_,c1,rest,v',hc,hm,hv⟩:=hr;cases hc;exact⟨cl,rfl,rfl,v',hm,hv⟩
  | q7=>obtain⟨_,c1,rest,v',hc,hm,rfl⟩:=hr;cases hc;exact⟨_,rfl,v',hm,rfl⟩
 cases x with
 | exit id=>cases g1
 | bC v=>cases g1
 | normal=>
  have ku:SR P w0 φ1 ⟨f,fn.ntmps,none⟩ s1 (q8 f .deferred) (cl::cs) iV a1 w1:=g4;obtain⟨Ch,hk⟩:=abQ (show Cl s1.df (k s1.rc s1.h)=true from g1);obtain⟨c',rfl,LC⟩:=S7 ku.rc;have q9:=ku.df;rw [Ch]at q9;exact⟨s1.rc,s1.h,φ1,w1,c',{(q8 f .deferred).atR a1 []with mode:=.returning},_,hk,g2,g3,ku.heap,LC,Steps.trans g5 (.one (stepR_end rfl)),rfl,rfl,q9.E0,fn,hf,results_none vQ _ _⟩
 | ret=>
  obtain⟨k1,g5⟩:=g5;have ku:SR P w0 φ1 ⟨f,fn.ntmps,none⟩ s1 (q8 f .deferred) (cl::cs) iV a1 w1:=g4;obtain⟨Ch,hk⟩:=abQ (show Cl s1.df (k s1.rc s1.h)=true from g1);obtain⟨c',rfl,LC⟩:=S7 ku.rc;have q9:=ku.df;rw [Ch]at q9;exact⟨s1.rc,s1.h,φ1,w1,c',{(q8 f .deferred).atR a1 (.code .ret::k1)with mode:=.returning},_,hk,g2,g3,ku.heap,LC,Steps.trans g5 (.one (stepR_ret rfl)),rfl,rfl,q9.E0,fn,hf,results_none vQ _ _⟩
end
section
variable {P:Program}{w0 w:World}{φ:aY}{h:AH}
theorem awz:∀(ps:List Tmp){vs:ZZE}{mf:ZZE}{t:PT}{n:Nat}{tm:Array Z}{k:PT→Bool},(∀p∈ps,p<n)→LR φ vs mf→TR φ t n tm→HW (ps.map Pos.of) vs t k=true→
 ps.length=mf.length∧∃t',TR φ t' n ((ps.zip mf).foldl (fun tmps (x:Tmp×Z)=>tmps.setIfInBounds x.1 x.2) tm)∧k t'=true:=by
 intro ps
 induction ps with
 | nil=>
  intro vs mf t n tm k _ hl ht hk;obtain⟨hn,ij⟩:=B9 (show a0 vs (k t)=true from hk);subst hn;have:=hl.E0;subst this;exact⟨rfl,t,by simpa using ht,ij⟩
 | cons p ps ih=>
  intro vs mf t n tm k hp hl ht hk;cases hl with
  | nil=>cases hk
  | cons v v' vs mf hv hl=>
   have ij:PT.lh (Pos.of p) t v (fun t=>HW (ps.map Pos.of) vs t k)=true:=hk;rw [PT.rZ]at ij;have Cm:=ht.set (Pos.of p) (by rw [Pos.qU];exact hp p (by simp)) hv;rw [Pos.qU]at Cm;obtain⟨h1,t',h2,h3⟩:=ih (fun q hq=>hp q (by simp [hq])) hl Cm ij;exact⟨by simp [h1],t',by simpa using h2,h3⟩
theorem awA (ps:Array Tmp)(vs:Array Z)(tm:Array Z):(ps.zip vs).foldl (fun tmps (t,a)=>tmps.setIfInBounds t a) tm=(ps.toList.zip vs.toList).foldl (fun tmps (x:Tmp×Z)=>tmps.setIfInBounds x.1 x.2) tm:=by
 rw [←Array.foldl_toList];simp only [Array.toList_zip]
theorem abS (H:HR P w0 φ h w){l l':Nat}(hl:φ l≠none)(kS:∀b d n,φ l=some (.live b d n)→l'=b){k:CR→AH→Bool}{j:Option Code}{st:LoopState}{b:Bool}(mV:st=if j.isNone then .ready else .done)(hb:b=j.isNone)(e:LD l h k j st b=true):
 ∃h' w',k (.ret (.bool b)) h'=true∧h.nx≤h'.nx∧HR P w0 φ h' w'∧(Instr.endRound l' j).run P w= .ok (.bool b) w':=by
 obtain⟨r,h1,e1⟩:=Lu e;obtain⟨bU,ee,e2⟩:=uQ e1;obtain⟨b0,d,n,r',q1,q2,q3,q4⟩:=H.loop hl h1;have:=kS _ _ _ q1;subst this;have hU:=q3.nK st j;refine⟨⟨h.nx,bU⟩,_,e2,zad _,H.abE q1 q2 q4 ee hU,?_⟩;rw [run_endRound j q2,hb,mV]
theorem aj2 {rec}(eQ:∀t,rec t=true→fS P w0 t){l:Nat}{args:ZZE}{k:CR→AH→Bool}(e:aj3 rec l args h k=true):Ap P w0 l args h k:=by
 intro φ args' l' w hl hm vJ H;obtain⟨r,h1,e1⟩:=Lu e;obtain⟨b0,d,n,r',q1,q2,q3,q4⟩:=H.loop hm h1;have hb0:=vJ _ _ _ q1;subst hb0;rw [q3.params]at e1;obtain⟨hlen,tm,ik,e2⟩:=awz _ q3.small hl q3.tm e1;have je:args'.size=r'.params.size:=by simpa using hlen.symm
 refine⟨r'.fn,_,r'.assign,r'.body,run_yield q2 je,fun c cs=>?_⟩;rw [awA];generalize (r'.params.toList.zip args'.toList).foldl (fun tmps (x:Tmp×Z)=>tmps.setIfInBounds x.1 x.2) r'.tmps=tmps at ik
 let b:Frame:={(default:Frame)with fn:=r'.fn,kind:=.normal,roundOf:=some l'}
 have vR:Frame.round l' r'.fn tmps r'.assign r'.body .normal=b.atR {tmps:=tmps,defers:=[]} [.code r'.assign,.beginRound,.code r'.body]:=by
  simp [Frame.round,Frame.atR,b]
 rw [vR];have hE:∀{φ':aY},Ext h.nx φ φ'→sc φ' ⟨r.fn,r.nt,some l⟩ b:=fun {φ'} hE=>⟨q3.fn,rfl,l',rfl,hE.bt hm,fun b d n hh=>vJ b d n (hE.live hm hh)⟩
 have hC:fS P w0 (.code r.assign ⟨r.fn,r.nt,some l⟩ ⟨tm,[],.off,h⟩ (abT rec l r k)):=eQ _ e2;obtain⟨x,s1,φ1,iV,a1,w1,g1,g2,g3,g4,g5⟩:=hC r'.assign q3.assign φ b (c::cs) (c::cs) {tmps:=tmps,defers:=[]} w ⟨⟨.nil,⟨rfl,.inl rfl⟩,H⟩,ik⟩ (hE (Ext.refl _ _)) _ (.inl rfl) [.beginRound,.code r'.body];cases x with
 | exit id=>cases g1
 | ret=>cases g1
 | bC v=>cases g1
 | normal=>
  have ku:SR P w0 φ1 ⟨r.fn,r.nt,some l⟩ s1 b (c::cs) iV a1 w1:=g4;have iM:=ku.rc.normal rfl;subst iM;obtain⟨r2,k1,g6⟩:=Lu (show uT s1.h l _=true from g1);obtain⟨vS,g7⟩:=dX g6;obtain⟨bU,ee,g8⟩:=uQ g7;have hm1:φ1 l≠none:=g2.bt hm;obtain⟨b1,d1,n1,r2',u1,u2,u3,u4⟩:=ku.heap.loop hm1 k1;have Tg:=vJ _ _ _ (g2.live hm u1);subst Tg
  have awB:r2'.state= .ready:=by
   rw [u3.state];cases hh:r2.state<;>rw [hh]at vS<;>first | rfl | cases vS
  have hU:=u3.nK .busy r2.gq;rw [show({r2' with state:=.busy,pending:=r2.gq}:Loop)={r2' with state:=.busy}from by rw [←u3.gq]]at hU;have H2:=ku.heap.abE u1 u2 u4 ee hU;have awC:=stepR_beginRound (P:=P) (b:=b) (a:=a1) (k:=[.code r'.body]) (cs:=c::cs) (l:=l') rfl (run_beginRound u2 awB);have hC2:fS P w0 (.code r.body ⟨r.fn,r.nt,some l⟩ ⟨s1.tm,s1.df,s1.rc,⟨s1.h.nx,bU⟩⟩ (Th l k)):=eQ _ g8;obtain⟨x,s2,φ2,cs2,a2,w2,f1,f2,f3,f4,f5⟩:=hC2 r'.body q3.body φ1 b (c::cs) (c::cs) a1 _ ⟨⟨ku.df,ku.rc,H2⟩,ku.tm⟩ (hE g2) _ (.inl rfl) [];obtain⟨Ch,f1⟩:=abQ (show Cl s2.df _=true from f1);have LF:Ext h.nx φ φ2:=g2.trans f2 g3;have Fb:φ2 l≠none:=LF.bt hm;have abU:∀b d n,φ2 l=some (.live b d n)→l'=b:=fun b d n hh=>vJ b d n (LF.live hm hh)
  have abV:=Steps.trans g5 (.one awC);have hN:h.nx≤s2.h.nx:=zay g3 f3;cases x with
  | bC v=>cases f1
  | normal=>
   have Cn:SR P w0 φ2 ⟨r.fn,r.nt,some l⟩ s2 b (c::cs) cs2 a2 w2:=f4;have iM:=Cn.rc.normal rfl;subst iM;obtain⟨h',w',z1,z2,z3,z4⟩:=abS Cn.heap Fb abU rfl rfl f1;exact⟨_,_,h',φ2,w',z1,LF,zay hN z2,z3,.bool true,Steps.trans abV (Steps.trans f5 (.one (stepR_round_end rfl rfl z4)))⟩
  | ret=>
   obtain⟨k1,f5⟩:=f5;have Cn:SR P w0 φ2 ⟨r.fn,r.nt,some l⟩ s2 b (c::cs) cs2 a2 w2:=f4;have iM:=Cn.rc.normal rfl;subst iM;obtain⟨h',w',z1,z2,z3,z4⟩:=abS Cn.heap Fb abU rfl rfl f1;exact⟨_,_,h',φ2,w',z1,LF,zay hN z2,z3,.bool false,Steps.trans abV (Steps.trans f5 (.one (stepR_round_ret rfl rfl z4)))⟩
  | exit id=>
   obtain⟨k1,hk1,f5⟩:=f5;have Cn:SR P w0 φ2 ⟨r.fn,r.nt,some l⟩ s2 b (c::cs) cs2 a2 w2:=f4;have iM:=Cn.rc.normal rfl;subst iM;obtain⟨h',w',z1,z2,z3,z4⟩:=abS Cn.heap Fb abU rfl rfl f1;exact⟨_,_,h',φ2,w',z1,LF,zay hN z2,z3,.bool false,Steps.trans abV (Steps.trans f5 (.one (stepR_round_exit rfl rfl (by rw [hk1];rfl) z4)))⟩
end
def qt (h h2:AH):Prop:=∀f o,h.ob.get f=some o→h2.ob.get f=some o
theorem qt.refl (h:AH):qt h h:=fun _ _ e=>e
theorem qt.trans {a b c}(h:qt a b)(h':qt b c):qt a c:=fun f o e=>h' f o (h f o e)
def cK (X:AH→KV→Bool):Prop:=∀h k,X h k=true→∃v,k v h=true∧∀h2 k2,qt h h2→k2 v h2=true→X h2 k2=true
theorem NT.LW {α}:∀(t:NT α) (i:Nat) (k:α→Bool) (x:α),t.get i=some x→t.fY i k=k x
 | .e,i,k,x,h=>by cases h
 | .n l v r,i,k,x,h=>by
  rw [NT.abd];rw [NT.get]at h;cases h0:Nat.beq i 0 with
  | true=>rw [h0]at h;have h':v=some x:=h;rw [h'];rfl
  | false=>
   rw [h0]at h;cases h1:Nat.beq (Nat.mod i 2) 1 with
   | true=>rw [h1]at h;exact NT.LW l _ k x h
   | false=>rw [h1]at h;exact NT.LW r _ k x h
theorem acv {h b o k}(e:h.ob.get b=some o):uU h b k=k o:=by
 cases h;exact NT.LW _ _ _ _ e
theorem awL:∀(n:Nat){c:NT Z}{i:Nat}{l:ZZE}{k:ZZE→Bool},l.length=n→(∀j v,l[j]? =some v→c.get (i+j)=some v)→vU c i n k=k l:=by
 intro n
 induction n with
 | zero=>intro c i l k hl _;have:l=[]:=List.length_eq_zero_iff.1 hl;subst this;rfl
 | succ n ih=>
  intro c i l k hl hc;cases l with
  | nil=>cases hl
  | cons v l=>
   have h0:c.get i=some v:=hc 0 v (by simp);show NT.fY c i (fun v=>fN (Nat.succ i) fun i'=>vU c i' n fun l=>k (v::l))=k (v::l);rw [NT.LW _ _ _ _ h0,dG]
   exact ih (by simpa using hl) (fun j u hj=>by
    have:=hc (j+1) u (by simpa using hj);rw [show i+(j+1)=Nat.succ i+j from by omega]at this;exact this)
section
variable {X Y:AH→KV→Bool}
theorem ri (v:Z):cK (fun h k=>k v h):=fun _ _ e=>⟨v,e,fun _ _ _ e'=>e'⟩
theorem fU:cK (fun _ _=>false):=fun _ _ e=>by cases e
theorem Fj {c}(hx:cK X):cK (fun h k=>iff c (X h k)):=fun h k e=>by
 obtain⟨rfl,e1⟩:=dX e;exact hx h k e1
theorem Fk {c}(hx:cK X)(hy:cK Y):cK (fun h k=>bif c then X h k else Y h k):=by
 cases c
 · exact hy
 · exact hx
theorem akJ {c}(hx:cK X)(hy:cK Y):cK (fun h k=>Bool.casesOn (motive:=fun _=>Bool) c (X h k) (Y h k)):=by
 cases c
 · exact hx
 · exact hy
theorem akK {vs}(hx:cK X):cK (fun h k=>a0 vs (X h k)):=by
 cases vs with
 | nil=>exact hx
 | cons _ _=>exact fU
theorem Ty {vs:ZZE}{X:Z→AH→KV→Bool}(hx:∀x,cK (X x)):cK (fun h k=>a1 vs (fun x=>X x h k)):=by
 cases vs with
 | nil=>exact fU
 | cons x vs=>exact akK (hx x)
theorem Fm {vs:ZZE}{X:Z→Z→AH→KV→Bool}(hx:∀x y,cK (X x y)):cK (fun h k=>a2 vs (fun x y=>X x y h k)):=by
 cases vs with
 | nil=>exact fU
 | cons x vs=>exact Ty (hx x)
theorem akL {vs:ZZE}{X:Z→Z→Z→AH→KV→Bool}(hx:∀x y z,cK (X x y z)):cK (fun h k=>a3 vs (fun x y z=>X x y z h k)):=by
 cases vs with
 | nil=>exact fU
 | cons x vs=>exact Fm (hx x)
theorem LX {n:Nat}{X:Nat→AH→KV→Bool}(hx:∀m,cK (X m)):cK (fun h k=>fN n (fun m=>X m h k)):=by
 simp only [dG];exact hx n
theorem Tz {n:Int}{X:Int→AH→KV→Bool}(hx:∀m,cK (X m)):cK (fun h k=>fI n (fun m=>X m h k)):=by
 simp only [tA];exact hx n
theorem LY {n:Bool}{X:Bool→AH→KV→Bool}(hx:∀m,cK (X m)):cK (fun h k=>fB n (fun m=>X m h k)):=by
 simp only [lA];exact hx n
theorem acw {v:Z}{X:Nat→Nat→AH→KV→Bool}(hx:∀b o,cK (X b o)):cK (fun h k=>mB v (fun b o=>X b o h k)):=by
 cases v<;>first
  | exact fU
  | (rename_i a;cases a with
   | none=>exact fU
   | some a=>cases a;exact hx _ _)
theorem akM {v:Z}{X:ZZE→AH→KV→Bool}(hx:∀l,cK (X l)):cK (fun h k=>Ay v (fun l=>X l h k)):=by
 cases v<;>first
  | exact fU
  | (rename_i a;cases a;exact hx _)
theorem akN {v:Z}{X:ZZE→AH→KV→Bool}(hx:∀l,cK (X l)):cK (fun h k=>Tj v (fun l=>X l h k)):=by
 cases v<;>first
  | exact fU
  | (rename_i a;cases a;exact hx _)
theorem akO {v:Z}{X:Bool→AH→KV→Bool}(hx:∀l,cK (X l)):cK (fun h k=>Az v (fun l=>X l h k)):=by
 cases v<;>first
  | exact fU
  | exact hx _
theorem TA {v:Z}{X:IntKind→Int→AH→KV→Bool}(hx:∀kd n,cK (X kd n)):cK (fun h k=>pN v (fun kd n=>X kd n h k)):=by
 cases v<;>first
  | exact fU
  | exact hx _ _
theorem TB {v:Z}{X:Nat→AH→KV→Bool}(hx:∀n,cK (X n)):cK (fun h k=>vV v (fun n=>X n h k)):=by
 cases v<;>first
  | exact fU
  | (rename_i kd n;cases n<;>first | exact hx _ | exact fU)
theorem LZ {v:Z}{X:ByteArray→AH→KV→Bool}(hx:∀l,cK (X l)):cK (fun h k=>mX v (fun l=>X l h k)):=by
 cases v<;>first
  | exact fU
  | exact hx _
theorem acx {v:Z}{X:Nat→Nat→Nat→Nat→AH→KV→Bool}(hy:cK Y)(hx:∀b o l c,cK (X b o l c)):cK (fun h k=>pO v (Y h k) (fun b o l c=>X b o l c h k)):=by
 cases v<;>first
  | exact fU
  | (rename_i a l c;cases a with
   | none=>exact hy
   | some a=>cases a;exact hx _ _ _ _)
theorem akP {v:Z}{X:Nat→AH→KV→Bool}(hy:cK Y)(hx:∀r,cK (X r)):cK (fun h k=>Fe v (Y h k) (fun r=>X r h k)):=by
 cases v<;>first
  | exact fU
  | (rename_i a;cases a with
   | none=>exact hy
   | some a=>exact hx _)
theorem akQ {X:Z→AH→KV→Bool}(hx:∀v,cK (X v)):∀{l:ZZE}{n:Nat},cK (fun h k=>vT l n (fun v=>X v h k)):=by
 intro l
 induction l with
 | nil=>intro n;exact fU
 | cons a l ih=>
  intro n;cases n with
  | zero=>exact hx a
  | succ n=>exact ih
theorem akR:∀{l:ZZE}{n:Nat}{X:ZZE→AH→KV→Bool},(∀v,cK (X v))→cK (fun h k=>yy l n (fun v=>X v h k)):=by
 intro l
 induction l with
 | nil=>
  intro n X hx;cases n with
  | zero=>exact hx _
  | succ n=>exact fU
 | cons a l ih=>
  intro n X hx;cases n with
  | zero=>exact hx _
  | succ n=>exact ih (X:=fun v=>X (a::v)) fun v=>hx _
theorem akS {X:ZZE→AH→KV→Bool}(hx:∀v,cK (X v)):∀{l:ZZE}{n:Nat},cK (fun h k=>yz l n (fun v=>X v h k)):=by
 intro l
 induction l with
 | nil=>
  intro n;cases n with
  | zero=>exact hx _
  | succ n=>exact fU
 | cons a l ih=>
  intro n;cases n with
  | zero=>exact hx _
  | succ n=>exact ih
theorem akT:∀{vs l:ZZE}{X:ZZE→AH→KV→Bool},(∀v,cK (X v))→cK (fun h k=>re l vs (fun v=>X v h k)):=by
 intro vs l
 induction l generalizing vs with
 | nil=>
  intro X hx;cases vs with
  | nil=>exact hx _
  | cons a vs=>exact fU
 | cons a l ih=>
  intro X hx;cases vs with
  | nil=>exact hx _
  | cons b vs=>exact ih (X:=fun v=>X (b::v)) fun v=>hx _
theorem awM:∀{l:ZZE}{n:Nat}{vs:ZZE}{X:ZZE→AH→KV→Bool},(∀v,cK (X v))→cK (fun h k=>vG l n vs (fun v=>X v h k)):=by
 intro l
 induction l with
 | nil=>
  intro n vs X hx;cases n with
  | zero=>exact(akT hx:cK (fun h k=>re [] vs (fun v=>X v h k)))
  | succ n=>exact fU
 | cons a l ih=>
  intro n vs X hx;cases n with
  | zero=>exact(akT hx:cK (fun h k=>re (a::l) vs (fun v=>X v h k)))
  | succ n=>exact ih (X:=fun v=>X (a::v)) fun v=>hx _
theorem acy:∀{l m:ZZE}{X:ZZE→AH→KV→Bool},(∀v,cK (X v))→cK (fun h k=>mc l m (fun v=>X v h k)):=by
 intro l
 induction l with
 | nil=>intro m X hx;exact hx _
 | cons a l ih=>intro m X hx;exact ih (X:=fun v=>X (a::v)) fun v=>hx _
theorem acz:∀{ps:List (Nat×Nat)}{l vs:ZZE}{X:ZZE→AH→KV→Bool},(∀v,cK (X v))→cK (fun h k=>nL l ps vs (fun v=>X v h k)):=by
 intro ps
 induction ps with
 | nil=>
  intro l vs X hx;cases vs with
  | nil=>exact hx _
  | cons a vs=>exact fU
 | cons p ps ih=>
  intro l vs X hx;cases vs with
  | nil=>exact fU
  | cons a vs=>
   obtain⟨off,sz⟩:=p;exact Fk (awM fun l'=>ih hx) fU
theorem akU:∀{ss:List Nat}{vs:ZZE}{X:ZZE→AH→KV→Bool},(∀v,cK (X v))→cK (fun h k=>EX ss vs (fun v=>X v h k)):=by
 intro ss
 induction ss with
 | nil=>intro vs X hx;exact akK (hx [])
 | cons n ss ih=>
  intro vs X hx;cases vs with
  | nil=>exact fU
  | cons v vs=>exact Fj (ih (X:=fun l h k=>mc (cellsOf v) l fun l=>X l h k) fun l=>acy hx)
theorem yD {b:Bool}{vs:ZZE}{d:Nat}{X:Nat→ZZE→AH→KV→Bool}(hx:∀n vs,cK (X n vs)):cK (fun h k=>vW b vs d (fun n vs=>X n vs h k)):=by
 cases b with
 | false=>exact hx _ _
 | true=>
  cases vs with
  | nil=>exact fU
  | cons v vs=>exact TB fun n=>hx n vs
theorem acA {o:Option Bool}{ng:Bool}:cK (fun h k=>yB o ng (fun v=>k v h)):=by
 cases o with
 | none=>exact fU
 | some b=>exact LY fun b=>ri _
theorem akV {b o:Nat}{X:Z→AH→KV→Bool}(hx:∀v,cK (X v)):cK (fun h k=>yw h b o (fun v=>X v h k)):=fun h k e=>by
 obtain⟨lo,hi,ty,rw,c,v,h1,h2,h3,h4,h5⟩:=S9 e;obtain⟨u,hu,hr⟩:=hx v h k h5;refine⟨u,hu,fun hh k2 hle hk=>?_⟩;show uU hh b _=true;rw [acv (hle _ _ h1)];show iff (Nat.ble lo o&&Nat.ble (Nat.succ o) hi) (NT.fY c o fun v=>X v hh k2)=true;rw [NT.LW _ _ _ _ h4,iff_eq _ _];exact⟨by simp;exact⟨h2,h3⟩,hr hh k2 hle hk⟩
theorem akW {b o n:Nat}{X:ZZE→AH→KV→Bool}(hx:∀v,cK (X v)):cK (fun h k=>pL h b o n (fun v=>X v h k)):=fun h k e=>by
 obtain⟨lo,hi,ty,rw,c,l,h1,h2,h3,h4,h5,h6⟩:=B7 e;obtain⟨u,hu,hr⟩:=hx l h k h6;refine⟨u,hu,fun hh k2 hle hk=>?_⟩;show uU hh b _=true;rw [acv (hle _ _ h1)];show iff (Nat.ble lo o&&Nat.ble (Nat.add o n) hi) (vU c o n fun v=>X v hh k2)=true;rw [awL n h4 h5,iff_eq _ _];exact⟨by simp;exact⟨h2,h3⟩,hr hh k2 hle hk⟩
theorem akX {b:Nat}{X:List (Z×Z×Nat)→Nat→AH→KV→Bool}(hx:∀es cl,cK (X es cl)):cK (fun h k=>o4 h b (fun es cl=>X es cl h k)):=fun h k e=>by
 obtain⟨es,cl,h1,h2⟩:=EU e;obtain⟨u,hu,hr⟩:=hx es cl h k h2;refine⟨u,hu,fun hh k2 hle hk=>?_⟩;show uU hh b _=true;rw [acv (hle _ _ h1)];exact hr hh k2 hle hk
theorem akY {kc : Nat}{X : Option Z → AH → KV → Bool}(hx : ∀ v, cK (X v)) : ∀ {es : List (Z × Z × Nat)} {x : Z}, cK (fun h k => ET kc es x (fun v => X v h k)) := by
  intro es x
  induction es with
  | nil => exact hx none
  | cons p es ih =>
    obtain ⟨a, v, n⟩ := p
    cases hq : qk kc x a with
    | none => simp only [ET, hq]; exact fU
    | some t => cases t <;> simp only [ET, hq]
                · exact ih
                · exact hx _
theorem akZ {zero ok o}:cK (fun h k=>SF zero ok h k o):=by
 cases o<;>cases ok<;>exact ri _
end
theorem ak0 {sz l h m cap:Nat}{abY:Bool}{b o:Nat}:cK (fun hh k=>AA sz l h m cap abY b o (fun v=>k v hh)):=by
 unfold AA;repeat (first | exact ri _ | exact fU | exact acA | exact akZ | apply Fj | apply Fk | apply akJ | apply Ty | apply Fm | apply akL | apply LX | apply Tz | apply LY | apply acw | apply akM | apply akN | apply akO | apply TB | apply TA | apply LZ | apply acx | apply akP | apply akQ | apply akR | apply akS | apply acy | apply acz | apply akU | apply yD | apply akV | apply akW | apply akX | apply akY | (intro _))
theorem awN {x y ng}:cK (fun h k=>HX x y ng (fun v=>k v h)):=by
 cases x with
 | none=>cases y<;>exact fU
 | some a=>
  cases y with
  | none=>cases a<;>exact fU
  | some b=>cases a<;>cases b<;>simp only [HX]<;>first | exact acA | exact fU
theorem awO {op:BinOp}{a b:ByteArray}:cK (fun h k=>ab0 op a b (fun v=>k v h)):=by
 cases op<;>first | exact fU | exact LY fun _=>ri _
theorem awP {op:BinOp}{kd:IntKind}{a b:Int}:cK (fun h k=>abW op kd a b (fun v=>k v h)):=by
 cases op<;>first
  | exact fU
  | exact LY fun _=>ri _
  | exact Tz fun _=>ri _
  | exact Fk fU (Tz fun _=>ri _)
  | (cases kd<;>first
   | exact fU
   | (cases a<;>cases b<;>first | exact fU | exact Fk (LX fun _=>ri _) fU))
theorem awQ {kd:IntKind}{a b:Int}:cK (fun h k=>abX kd a b (fun v=>k v h)):=by
 cases kd<;>first
  | exact fU
  | (cases a<;>cases b<;>first | exact fU | exact Fk (LX fun _=>ri _) fU)
theorem awR {op kx ky a b}:cK (fun h k=>abZ op kx a ky b (fun v=>k v h)):=by
 cases op<;>first
  | exact fU
  | exact awQ
  | exact Fj awP
theorem awS {ty zero x}:cK (fun h k=>abq ty zero x (fun v=>k v h)):=by
 cases x<;>first
  | exact fU
  | exact ri _
  | exact Fk (ri _) (ri _)
theorem ak1 (p:Prim)(ha:p.Cr=false)(hm:p.makes=false)(vs:List Value):cK (fun h k=>p.ev vs h k):=by
 cases p
 case alloc=>cases hm
 case box=>cases hm
 case buildSlice=>cases hm
 case store=>cases ha
 case ai6=>
  change cK (fun h k=>Tl vs h k);unfold Tl
  refine Fm fun x i=>TB fun i=>LZ fun s=>?_
  cases s.data.toList[i]? with
  | none=>exact fU
  | some c=>exact LX fun _=>ri _
 case slice sz lo hi mx=>
  change cK (fun h k=>LJ sz lo hi mx vs h k);unfold LJ
  cases vs with
  | nil=>exact fU
  | cons x vs=>exact acx (yD fun _ _=>yD fun _ _=>Fj (ri _)) fun b o len cap=>yD fun l vs=>yD fun hh vs=>yD fun m vs=>Fj ak0
 case ai7 n sz lo hi mx=>
  change cK (fun h k=>LK n sz lo hi mx vs h k);unfold LK
  cases vs with
  | nil=>exact fU
  | cons x vs=>exact acw fun b o=>yD fun l vs=>yD fun hh vs=>yD fun m vs=>Fj ak0
 case aL op=>change cK (fun h k=>Tm op vs h k);unfold Tm;exact Fm fun x y=>TA fun _ _=>TA fun _ _=>awR
 case zT op=>change cK (fun h k=>Tn op vs h k);unfold Tn;exact Fm fun x y=>LZ fun _=>LZ fun _=>awO
 case rT nk ng=>change cK (fun h k=>To nk ng vs h k);unfold To;exact Fm fun x y=>awN
 case mkMap=>cases ha
 case mkSlice=>cases ha
 case ye=>cases ha
 case append=>cases ha
 case copy=>cases ha
 case ai8 t z=>change cK (fun h k=>SJ t z vs h k);unfold SJ;exact Ty fun x=>awS
 case Ks=>cases ha
 case BV=>cases ha
 case x e=>cases ha
 all_goals (simp only [Prim.ev,ab1,ab2,akj,akk,ab3,ab4,ab5,ab6,ab7,ab8,ab9,aca,acb,acd,akm,ace,acf,acg,ach,aci,acj,ack,abn,acm,acn,aco,acp,acq,abj,abk];repeat (first | exact ri _ | exact fU | exact acA | exact akZ | apply Fj | apply Fk | apply akJ | apply Ty | apply Fm | apply akL | apply LX | apply Tz | apply LY | apply acw | apply akM | apply akN | apply akO | apply TB | apply TA | apply LZ | apply acx | apply akP | apply akQ | apply akR | apply akS | apply acy | apply acz | apply akU | apply yD | apply akV | apply akW | apply akX | apply akY | (intro _)))
def nP (v u:Z):Prop:=∀φ x,VR φ v x↔VR φ u x
def uV (l m:ZZE):Prop:=∀φ x,LR φ l x↔LR φ m x
theorem nP.refl (v:Z):nP v v:=fun _ _=>Iff.rfl
theorem uV.refl (v:ZZE):uV v v:=fun _ _=>Iff.rfl
theorem nP.of_eq {v u}(h:v=u):nP v u:=h▸nP.refl v
theorem AtR.same {φ a b x}(h1:a.block=b.block)(h2:a.off=b.off)(h:AtR φ a x):AtR φ b x:=fun bl d n hb=>by
 have:=h bl d n (by rw [h1];exact hb);rw [h2]at this;exact this
theorem Ae.same {φ a b x len cap eX}(h1:a.block=b.block)(h2:a.off=b.off)(h:Ae φ a x len cap eX):Ae φ b x len cap eX:=by
 rcases h with⟨h3,h4,h5,h6⟩ | ⟨sz,h3,h4,h5,h6⟩
 · exact .inl ⟨h3,h4,h5,fun hp=>(h6 hp).same h1 h2⟩
 · exact .inr ⟨sz,h3,h4,h5,fun hp=>⟨(h6 hp).1.same h1 h2,fun bl d n hb=>(h6 hp).2 bl d n (by rw [h1];exact hb)⟩⟩
theorem nP.ptr {a b}(h1:a.block=b.block)(h2:a.off=b.off):nP (.pointer (some a)) (.pointer (some b)):=fun φ x=>by
 constructor
 · intro h;cases h with | ptr _ a' q1 q2=>exact .ptr _ _ (h1▸q1) (q2.same h1 h2)
 · intro h;cases h with | ptr _ a' q1 q2=>exact .ptr _ _ (h1▸q1) (q2.same h1.symm h2.symm)
theorem nP.sl {a b l c}(h1:a.block=b.block)(h2:a.off=b.off):nP (.slice (some a) l c) (.slice (some b) l c):=fun φ x=>by
 constructor
 · intro h;cases h with | sl _ a' _ _ _ q1 q2=>exact .sl _ _ _ _ _ (h1▸q1) (q2.same h1 h2)
 · intro h;cases h with | sl _ a' _ _ _ q1 q2=>exact .sl _ _ _ _ _ (h1▸q1) (q2.same h1.symm h2.symm)
theorem uV.cons {a b l m}(h:nP a b)(hl:uV l m):uV (a::l) (b::m):=fun φ x=>by
 constructor
 · intro h';cases h' with | cons _ _ _ _ q1 q2=>exact .cons _ _ _ _ ((h _ _).1 q1) ((hl _ _).1 q2)
 · intro h';cases h' with | cons _ _ _ _ q1 q2=>exact .cons _ _ _ _ ((h _ _).2 q1) ((hl _ _).2 q2)
theorem nP.agg {l m}(h:uV l m):nP (.agg ⟨l⟩) (.agg ⟨m⟩):=fun φ x=>by
 constructor
 · intro h';cases h' with | agg _ _ q1=>exact .agg _ _ ((h _ _).1 q1)
 · intro h';cases h' with | agg _ _ q1=>exact .agg _ _ ((h _ _).2 q1)
theorem nP.ko {l m}(h:uV l m):nP (.tuple ⟨l⟩) (.tuple ⟨m⟩):=fun φ x=>by
 constructor
 · intro h';cases h' with | ko _ _ q1=>exact .ko _ _ ((h _ _).1 q1)
 · intro h';cases h' with | ko _ _ q1=>exact .ko _ _ ((h _ _).2 q1)
theorem nP.func {fn a b c d}(h1:uV a c)(h2:uV b d):nP (.func fn ⟨a⟩ ⟨b⟩) (.func fn ⟨c⟩ ⟨d⟩):=fun φ x=>by
 constructor
 · intro h';cases h' with | func _ _ _ _ _ _ q0 q1 q2=>exact .func _ _ _ _ _ _ q0 ((h1 _ _).1 q1) ((h2 _ _).1 q2)
 · intro h';cases h' with | func _ _ _ _ _ _ q0 q1 q2=>exact .func _ _ _ _ _ _ q0 ((h1 _ _).2 q1) ((h2 _ _).2 q2)
theorem ak2 {a b}(h:Tw a b=true):nP a b:=by
 unfold Tw at h;split at h
 · rename_i x y;exact .of_eq (by cases x<;>cases y<;>first | rfl | cases h)
 · rename_i kd x kd' y;cases hk:jE kd kd' with
   | false=>rw [hk]at h;cases h
   | true=>
    rw [hk]at h;have h':qp x y=true:=h;rw [Ak]at h';have:=uO hk;have h'':x=y:=by simpa using h'
    exact .of_eq (by rw [this,h''])
 · rename_i x y;rw [acB]at h;have:x.data.toList=y.data.toList:=by simpa using h
   have h2:x=y:=by cases x;cases y;simp only at this;congr 1;exact Array.toList_inj.1 this
   exact .of_eq (by rw [h2])
 · exact .refl _
 · simp only [zae,Nat.beq_eq]at h;exact .ptr h.1 h.2
 · simp only [zae,Nat.beq_eq]at h;exact .of_eq (by rw [h.1,h.2])
 · simp only [zae,Nat.beq_eq]at h;obtain⟨⟨⟨h1,h2⟩,h3⟩,h4⟩:=h;subst h3;subst h4;exact .sl h1 h2
 · exact .refl _
 · simp only [Nat.beq_eq]at h;exact .of_eq (by rw [h])
 · exact .refl _
 · exact .refl _
 · cases h
theorem acC:∀ {l m},LQ l m=true→uV l m
 | [],[],_=>.refl _
 | a::l,b::m,h=>by
  simp only [LQ,zae]at h;exact .cons (ak2 h.1) (acC h.2)
 | [],_::_,h=>by cases h
 | _::_,[],h=>by cases h
theorem ak3 {a b}(h:Tx a b=true):nP a b:=by
 unfold Tx at h;split at h
 · simp only [zae,Nat.beq_eq]at h;obtain⟨⟨h1,h2⟩,h3⟩:=h;subst h1;exact .func (acC h2) (acC h3)
 · exact ak2 h
theorem TC:∀ {l m},Fh l m=true→uV l m
 | [],[],_=>.refl _
 | a::l,b::m,h=>by
  simp only [Fh,zae]at h;exact .cons (ak3 h.1) (TC h.2)
 | [],_::_,h=>by cases h
 | _::_,[],h=>by cases h
theorem awT {a b}(h:yC a b=true):nP a b:=by
 unfold yC at h;split at h
 · exact .agg (TC h)
 · exact .ko (TC h)
 · exact ak3 h
noncomputable def rj (g:Option (Pos×Bool)) (t:PT):Bool:=vM g t true false
def mC (t:PT):gp→Z | .t p=>t.get p | .c v=>v
theorem acD (g:Option (Pos×Bool))(t:PT)(yes no:Bool):vM g t yes no=bif rj g t then yes else no:=by
 cases g with
 | none=>rfl
 | some pw=>
  obtain⟨p,want⟩:=pw;show PT.fY p t (E5 want yes no)=bif PT.fY p t (E5 want true false)then yes else no
  rw [PT.oX,PT.oX];unfold E5;split
  · cases tz _ want<;>rfl
  · rfl
theorem acE (o:gp)(t:PT)(k:Z→Bool):As o t k=k (mC t o):=by
 cases o with
 | t p=>exact PT.oX p t k
 | c v=>rfl
theorem H5 (t:PT):∀(l:List gp) (k:ZZE→Bool),vL l t k=k (l.map (mC t))
 | [],k=>rfl
 | o::l,k=>by
  show As o t (fun v=>vL l t fun vs=>k (v::vs))=_;rw [acE,H5 t l];rfl
theorem L3 (d:Option Pos)(s:St)(v:Z)(h:AH)(k:St→Bool):mg d s v h k=k ⟨match d with | none=>s.tm | some p=>s.tm.set p v,s.df,s.rc,h⟩:=by
 cases d with
 | none=>rfl
 | some p=>exact PT.rZ p s.tm v _
def Prim.made (p:Prim) (b:Nat):Z:=match p with | .buildSlice _ n _ _=>.slice (some ⟨b,0,none⟩) n n | _=>ak b 0
theorem ak4:∀(ps:List (Nat×Nat)) (l vs:ZZE) (k:ZZE→Bool),nL l ps vs k=true→∃m,k m=true∧∀k2,k2 m=true→nL l ps vs k2=true:=by
 intro ps l vs k h;have hD:=acz (ps:=ps) (l:=l) (vs:=vs) (X:=fun m h k=>k (.agg ⟨m⟩) h) (fun m=>ri _);obtain⟨v,h1,h2⟩:=hD ⟨0,.e⟩ (fun v _=>match v with | .agg ⟨m⟩=>k m | _=>false) h;cases v with
 | agg a=>
  obtain⟨m⟩:=a;exact⟨m,h1,fun k2 hk=>h2 ⟨0,.e⟩ (fun v _=>match v with | .agg ⟨m⟩=>k2 m | _=>false) (qt.refl _) hk⟩
 | _=>cases h1
section
variable {P:Program}{w0 w:World}{φ:aY}{h:AH}{ρ:Operand→Value}{o:Oper}{vs:List Value}
def L4 (p:Prim) (vs:ZZE) (ty:TypeId) (l:ZZE):Prop:=∀k2:TypeId→ZZE→Bool,k2 ty l=true→p.fresh vs k2=true
theorem awU {p k}(e:p.fresh vs k=true):∃ty l,k ty l=true∧L4 p vs ty l:=by
 cases p with
 | alloc ty zero=>
  obtain⟨rfl,e1⟩:=B9 (show a0 vs (k ty zero)=true from e);exact⟨ty,zero,e1,fun k2 hk=>hk⟩
 | box ty=>
  obtain⟨v,rfl,e1⟩:=iU (show a1 vs (fun v=>k ty (cellsOf v))=true from e);exact⟨ty,cellsOf v,e1,fun k2 hk=>hk⟩
 | buildSlice ty n cells places=>
  obtain⟨m,e1,e2⟩:=ak4 _ _ _ _ (show nL cells places vs (fun l=>k ty l)=true from e);exact⟨ty,m,e1,fun k2 hk=>e2 (fun l=>k2 ty l) hk⟩
 | _=>cases e
theorem awV {p}(hm:p.makes=true){k:KV}(e:p.ev vs h k=true):∃ty l c bU,L4 p vs ty l∧(∀v∈l,iA v=true)∧(∀j v,l[j]? =some v→c.get j=some v)∧h.ob.mU h.nx (some (.cells 0 l.length ty true c)) bU∧k (p.made h.nx) ⟨h.nx+1,bU⟩=true:=by
 cases p with
 | alloc ty zero=>
  obtain⟨rfl,e1⟩:=B9 (show a0 vs _=true from e);obtain⟨h1,c,bU,h2,h3,h4⟩:=Aj e1;exact⟨ty,zero,c,bU,fun k2 hk=>hk,h1,h2,h3,h4⟩
 | box ty=>
  obtain⟨v,rfl,e1⟩:=iU (show a1 vs _=true from e);obtain⟨h1,c,bU,h2,h3,h4⟩:=Aj e1;exact⟨ty,cellsOf v,c,bU,fun k2 hk=>hk,h1,h2,h3,h4⟩
 | buildSlice ty n cells places=>
  obtain⟨m,e1,e2⟩:=ak4 _ _ _ _ (show nL cells places vs _=true from e);obtain⟨h1,c,bU,h2,h3,h4⟩:=Aj e1;exact⟨ty,m,c,bU,fun k2 hk=>e2 (fun l=>k2 ty l) hk,h1,h2,h3,h4⟩
 | _=>cases hm
theorem ak7 {p xs}(hc:r9 P o=some (.aU p,xs))(hm:p.makes=true):
 (∃ty z,o.op= .alloc ty∧zeroOf P ty=some z∧p= .alloc ty z.cells.toList∧xs=[])∨(∃ty x,o.op= .box ty x∧p= .box ty∧xs=[x])∨
 (∃t e' n s parts z,o.op= .buildSlice t n parts∧P.underlying t=some (.slice e')∧zeroOf P e'=some z∧iN P e'=some s∧n*s≤65536∧z.cells.size=s∧0<s∧
  p= .buildSlice e' n (oa n z.cells.toList) (parts.toList.map fun p=>(p.1*s,s))∧xs=parts.toList.map (·.2)):=by
 cases bK:o.op<;>simp only [r9,bK]at hc
 case alloc ty=>
  split at hc
  · rename_i z hz;cases hc;exact .inl ⟨ty,z,rfl,hz,rfl,rfl⟩
  · cases hc
 case box ty x=>cases hc;exact .inr (.inl ⟨ty,x,rfl,rfl,rfl⟩)
 case buildSlice t len parts=>
  split at hc
  · rename_i e' hu;split at hc
    · rename_i s z hs hz;split at hc
      · rename_i hg;cases hc;simp only [zae,zap,zbg]at hg;exact .inr (.inr ⟨t,e',len,s,parts,z,rfl,hu,hz,hs,hg.1.1,hg.1.2,hg.2,rfl,rfl⟩)
      · cases hc
    · cases hc
  · cases hc
 all_goals ((repeat' split at hc)<;>first | (cases hc;done) | (cases hc;cases hm;done) | (cases hc;unfold EY at hm;split at hm<;>cases hm))
theorem awW {p xs ty l}(hc:r9 P o=some (.aU p,xs))(hm:p.makes=true)(hv:LR φ vs (xs.map ρ))(hf:L4 p vs ty l):
    ∃l',LR φ l l'∧(execOp ρ o).run P w= .ok (.value (p.made w.heap.size)) (w.alloc (.cells l'.toArray ty)):=by
  classical
  have hd:=hf (fun dY l'=>decide (dY=ty∧l'=l)) (by simp);rcases ak7 hc hm with⟨dY,z,ho,hz,rfl,rfl⟩ | ⟨dY,x,ho,rfl,rfl⟩ | ⟨t,e',n,s,parts,z,ho,hu,hz,hs,hle,r7,h0,rfl,rfl⟩
  · obtain⟨rfl,e1⟩:=B9 (show a0 vs _=true from hd);obtain⟨rfl,rfl⟩:dY=ty∧z.cells.toList=l:=by simpa using e1
    obtain⟨i,hi,hz,jd⟩:=vE hz;refine⟨z.cells.toList,VR.cells (w7 jd),?_⟩;simp [execOp,ho,Instr.alloc,yk hi hz,newVar,newRow,World.alloc_eq,Prim.made,ak]
  · obtain⟨v,rfl,e1⟩:=iU (show a1 vs (fun v=>decide (dY=ty∧cellsOf v=l))=true from hd);obtain⟨rfl,rfl⟩:dY=ty∧cellsOf v=l:=by simpa using e1
    obtain⟨a',ha,hr⟩:=hv.one;simp at ha;subst ha;rw [HD];refine⟨_,VR.cells hr,?_⟩;simp [execOp,ho,Instr.box,newVar,newRow,World.alloc_eq,Prim.made,ak]
  · obtain⟨i,hi,oe,jd⟩:=vE hz;obtain⟨i2,jK,Ag⟩:=qZ hs;rw [hi]at jK;cases jK;subst Ag;have r8:(parts.map fun(i,x)=>(i,ρ x)).toList.map (fun p=>some (p.1*i.size,i.size))=(parts.toList.map fun p=>(p.1*i.size,i.size)).map some:=by simp [zbD]
    have vH:LR φ vs ((parts.map fun(i,x)=>(i,ρ x)).toList.map (·.2)):=by simpa [zbD]using hv
    obtain⟨r,r',q1,q2,q3⟩:=SL (place:=fun j=>some (j*i.size,i.size)) (show nL _ _ vs (fun l'=>decide (e'=ty∧l'=l))=true from hd) (LR.SE (VR.cells (w7 (φ:=φ) jd)) n) vH r8;obtain⟨rfl,rfl⟩:e'=ty∧r=l:=by simpa using q1
    have lQ:((Array.range (n*i.size)).map fun j=>z.cells[j % z.cells.size]!)=(oa n z.cells.toList).toArray:=by
      apply za8;have:=abm z.cells (by omega) n;rw [←r7];simpa [madeCells]using this
    have Cb:Instr.fill (fun j=>some (j*i.size,i.size)) (oa n z.cells.toList).toArray (List.map (fun x=>(x.fst,ρ x.snd)) parts.toList)=some r'.toArray:=by simpa using q3
    refine⟨r',q2,?_⟩;have K5:¬(16777216<n*i.size):=by omega
    simp only [execOp,ho,Instr.buildSlice,Sem.run_bind,run_underlying hu,Result.andThen_ok,nJ hi]
    by_cases tw:n*i.size=0
    · have K6:((Array.range (n*i.size)).map fun j=>(#[]:Array Z)[j % (#[]:Array Z).size]!)=(oa n z.cells.toList).toArray:=by
        rw [←lQ,tw];simp [Array.range_zero']
      simp [K5,tw];simp [tw]at K6;rw [K6];rw [Cb];simp [newRow,World.alloc_eq,Prim.made]
    · simp [K5,tw,yk hi oe];rw [lQ,Cb];simp [newRow,World.alloc_eq,Prim.made]
theorem awX {p xs}(hc:r9 P o=some (.aU p,xs))(hm:p.makes=true)(f B n:Nat):VR (φ.put f (.live B 0 n)) (p.made f) (p.made B):=by
 rcases ak7 hc hm with⟨dY,z,ho,hz,rfl,rfl⟩ | ⟨dY,x,ho,rfl,rfl⟩ | ⟨t,e',n',s,parts,z,ho,hu,hz,hs,hle,r7,h0,rfl,rfl⟩
 · exact PR.HC
 · exact PR.HC
 · refine .sl _ _ _ _ _ (by simp [aY.put]) (.inl ⟨by unfold bQ;have:n'≤n'*s:=Nat.le_mul_of_pos_right n' h0;omega,rfl,zad _,fun _ b d m hl=>?_⟩);simp only [aY.me]at hl;cases hl;exact⟨rfl,rfl,rfl⟩
theorem awY {p:Prim}(b:Nat)(k:Nat→Bool):acs (p.made b) k=k b:=by
 unfold Prim.made;split<;>rfl
end
section
variable {P:Program}{w0 w:World}{φ:aY}{nt:Nat}{ops:Array Oper}{as:Array cB}
theorem awZ {α β f}:∀{xs:List α}{ys:List β},xs.mapM f=some ys→ys.length=xs.length∧∀(i:Nat) (x:α),xs[i]? =some x→∃y,ys[i]? =some y∧f x=some y:=by
 intro xs
 induction xs with
 | nil=>intro ys h;simp at h;subst h;exact⟨rfl,fun i x hx=>by simp at hx⟩
 | cons a xs ih=>
  intro ys h;rw [List.mapM_cons]at h;cases ha:f a with
  | none=>simp [ha]at h
  | some b=>
   cases hs:xs.mapM f with
   | none=>simp [ha,hs]at h
   | some bs=>
    simp [ha,hs]at h;subst h;obtain⟨h1,h2⟩:=ih hs;refine⟨by simp [h1],fun i x hx=>?_⟩;cases i with
    | zero=>simp at hx;subst hx;exact⟨b,by simp,ha⟩
    | succ i=>simp at hx;obtain⟨y,h3,h4⟩:=h2 i x hx;exact⟨y,by simpa using h3,h4⟩
structure tD (P:Program) (nt:Nat) (ops:Array Oper) (as:Array cB):Prop where
 size:as.size=ops.size
 get:∀(i:Nat) (o:Oper),ops[i]? =some o→∃ao,as[i]? =some ao∧uS P nt ops o=some ao
theorem aw2 {l}(h:Lo P nt ops=some l):tD P nt ops l.toArray:=by
 obtain⟨h1,h2⟩:=awZ h;refine⟨by simpa using h1,fun i o ho=>?_⟩;obtain⟨y,h3,h4⟩:=h2 i o (by simpa using ho);exact⟨y,by simpa using h3,h4⟩
theorem tD.op (h:tD P nt ops as){i:Nat}{ao:cB}(ha:as[i]? =some ao):∃o,ops[i]? =some o∧uS P nt ops o=some ao:=by
 have cy:i<ops.size:=by rw [←h.size];exact(Array.getElem?_eq_some_iff.1 ha).1
 obtain⟨L5,h1,h2⟩:=h.get i ops[i] (by simp [cy]);rw [ha]at h1;cases h1;exact⟨ops[i],by simp [cy],h2⟩
theorem tD.lt (h:tD P nt ops as){i:Nat}{ao:cB}(ha:as[i]? =some ao):i<ops.size:=by rw [←h.size];exact(Array.getElem?_eq_some_iff.1 ha).1
def mD (as:Array cB) (j:Nat):Option Pos:=(as[j]?).bind (·.dst)
theorem ak8 {l p}:TD l p=true↔p∈l:=by
 unfold TD;rw [List.any_eq_true];constructor
 · rintro⟨x,h1,h2⟩;rw [Pos.beq_iff.1 h2];exact h1
 · intro h;exact⟨p,h,Pos.beq_iff.2 rfl⟩
theorem ak9 (hr:tD P nt ops as)(h:AF ops as=true){i j:Nat}{d:Pos}(hi:mD as i=some d)(hj:mD as j=some d):i=j:=by
 unfold mD at hi hj;cases im:as[i]? with
 | none=>rw [im]at hi;cases hi
 | some ai=>
  cases iO:as[j]? with
  | none=>rw [iO]at hj;cases hj
  | some aj=>
   have h1:=List.all_eq_true.1 h j (List.mem_range.2 (hr.lt iO));rw [hj]at h1;have h2:=List.all_eq_true.1 h1 i (List.mem_range.2 (hr.lt im));simp only [im]at h2;rw [im]at hi;have fx:ai.dst=some d:=hi;simp only [fx,zae,zbi,zbg]at h2;rcases h2.1 with h3 | h3
   · exact h3
   · rw [Pos.beq_iff.2 rfl]at h3;cases h3
theorem aw3 (hr:tD P nt ops as)(h:AF ops as=true){i j:Nat}{a:cB}{d:Pos}(hi:as[i]? =some a)(hd:d∈a.reads)(hj:mD as j=some d):i=j∨j∈ju ops i∨i∈ju ops j:=by
 cases iO:as[j]? with
 | none=>unfold mD at hj;rw [iO]at hj;cases hj
 | some aj=>
  have h1:=List.all_eq_true.1 h j (List.mem_range.2 (hr.lt iO));unfold mD at hj;rw [hj]at h1;have h2:=List.all_eq_true.1 h1 i (List.mem_range.2 (hr.lt hi));simp only [hi,zae,zbi,zbg,ak8.2 hd,zas,Bool.false_eq_true,false_or,List.contains_iff_mem]at h2;rcases h2.2 with(h3 | h3) | h3
  · exact .inl h3
  · exact .inr (.inl h3)
  · exact .inr (.inr h3)
theorem acH (hr:tD P nt ops as){i j:Nat}{a:cB}{d:Pos}(hi:as[i]? =some a)(hd:d∈a.reads)(hj:mD as j=some d)(hn:j∉ju ops i):yE ops as j=true:=by
 unfold mD at hj;cases iO:as[j]? with
 | none=>rw [iO]at hj;cases hj
 | some aj=>
  unfold yE;rw [iO]
  have:acI ops as j=true:=by
   unfold acI;rw [hj];refine List.any_eq_true.2 ⟨i,List.mem_range.2 (hr.lt hi),?_⟩;simp only [hi,ak8.2 hd,zbE,zbc,List.contains_eq_mem,zbk];exact hn
  simp [this]
theorem ala {j}(h:yE ops as j=false):∃a d,as[j]? =some a∧a.act.Cr=false∧a.dst=some d:=by
 unfold yE at h;cases iO:as[j]? with
 | none=>rw [iO]at h;cases h
 | some a=>
  rw [iO]at h;simp only [za4]at h;cases hd:a.dst with
  | none=>rw [hd]at h;simp at h
  | some d=>exact⟨a,d,rfl,h.1.1,hd⟩
theorem aw4 {a:nH}(h:a.Cr=false):∃p,a= .aU p∧p.Cr=false:=by
 cases a with
 | aU p=>exact⟨p,rfl,h⟩
 | _=>cases h
inductive AG (ops:Array Oper):List Nat→Prop where
 | nil:AG ops []
 | cons (i:Nat) (l:List Nat) (h1:i∉l) (h2:∀p∈ju ops i,p∈l) (hl:AG ops l):AG ops (i::l)
theorem AG.closed {l}(h:AG ops l):∀j∈l,∀p∈ju ops j,p∈l:=by
 induction h with
 | nil=>intro j hj;cases hj
 | cons i l h1 h2 hl ih=>
  intro j hj p hp;rcases List.mem_cons.1 hj with rfl | hj
  · exact zaj _ (h2 p hp)
  · exact zaj _ (ih j hj p hp)
theorem AG.first {l}(h:AG ops l){u:Nat→Bool}:(∃x∈l,u x=true)→∃r∈l,u r=true∧∀p∈ju ops r,u p=false:=by
 induction h with
 | nil=>rintro⟨x,hx,_⟩;cases hx
 | cons i l h1 h2 hl ih=>
  rintro⟨x,hx,hu⟩
  by_cases hex:∃y∈l,u y=true
  · obtain⟨r,q1,q2,q3⟩:=ih hex;exact⟨r,zaj _ q1,q2,q3⟩
  · rcases List.mem_cons.1 hx with rfl | hx
    · refine⟨x,zai,hu,fun p hp=>?_⟩;cases hup:u p with
      | false=>rfl
      | true=>exact absurd ⟨p,h2 p hp,hup⟩ hex
    · exact absurd ⟨x,hx,hu⟩ hex
theorem aw5 {good:Nat→Prop}(hg:∀j,good j→∀p∈ju ops j,good p):∀(done S:List Nat),(∀j∈S,good j)→∀j∈Cs ops S done,good j:=by
 intro done
 induction done with
 | nil=>intro S hS j hj;exact hS j hj
 | cons i done ih=>
  intro S hS j hj;unfold Cs at hj;split at hj
  · rename_i hc;have hi:=hS i (by simpa using hc)
    exact ih _ (fun q hq=>by
     rcases List.mem_append.1 hq with hq | hq
     · exact hg i hi q hq
     · exact hS q hq) j hj
  · exact ih _ hS j hj
theorem aw6 {e s k rec r}:∀{late:List Nat}{cs:List nI},L6 as late=some cs→vO rec (cs++r) e s k=true→(∀j∈late,∃a,as[j]? =some a∧H0 a s=true)∧vO rec r e s k=true:=by
 intro late
 induction late with
 | nil=>intro cs hc h;cases hc;exact⟨fun j hj=>(by cases hj),h⟩
 | cons j late ih=>
  intro cs hc h;unfold L6 at hc;split at hc
  · rename_i a r' ha hr;cases hc;obtain⟨h1,h2⟩:=dX (show iff (H0 a s) (vO rec (r'++r) e s k)=true from h);obtain⟨h3,h4⟩:=ih hr h2;refine⟨fun i hi=>?_,h4⟩;rcases List.mem_cons.1 hi with rfl | hi
    · exact⟨a,ha,h1⟩
    · exact h3 i hi
  · cases hc
end
section
variable {P:Program}{w0 w:World}{φ:aY}{nt:Nat}{ops:Array Oper}{as:Array cB}{s:St}{b:Frame}{cs0 cs:List Frame}{a:Act}{o:Oper}{ao:cB}{d:Pos}{N:Nat}
inductive vX (N:Nat) (s:St) (φ:aY) (ao:cB) (d:Pos):Prop where
 | off (h:rj ao.guard s.tm=false) (hu:s.tm.get d=undef)
 | val (p:Prim) (h:rj ao.guard s.tm=true) (ha:ao.act= .aU p) (yF:p.Cr=false) (hm:p.makes=false) (v:Z) (hv:nP v (s.tm.get d))
  (hd:∀h2 k2,qt s.h h2→k2 v h2=true→p.ev (ao.args.map (mC s.tm)) h2 k2=true)
 | made (p:Prim) (h:rj ao.guard s.tm=true) (ha:ao.act= .aU p) (hm:p.makes=true) (f:Nat) (ty:TypeId) (l m:ZZE) (c:NT Z) (hf:L4 p (ao.args.map (mC s.tm)) ty l)
  (hs:s.tm.get d=p.made f) (ho:s.h.ob.get f=some (.cells 0 l.length ty true c)) (hc:∀(j:Nat) (v:Z),m[j]? =some v→c.get j=some v) (Ct:uV l m) (hlen:m.length=l.length) (hφ:φ f=none) (hn:f<s.h.nx) (hN:N≤f)
def AI (s:St) (ao:cB) (d:Pos) (f:Nat):Prop:=∃p,ao.act= .aU p∧p.makes=true∧rj ao.guard s.tm=true∧s.tm.get d=p.made f
theorem alb {p q:Prim}{f g:Nat}(h:p.made f=q.made g):f=g:=by
 unfold Prim.made ak at h;split at h<;>split at h<;>first | (cases h;rfl) | cases h
theorem aw7 {i:Nat}(hc:uS P nt ops o=some ao)(hr:∀p∈ao.reads,VR φ (s.tm.get p) (a.tmps.getD p.un undef)):Region.wanted o (yielded ops a.tmps)=rj ao.guard s.tm:=by
  obtain⟨act,xs,args,h1,h2,rfl,rfl,h4,h5⟩:=HP hc;rcases h5 with⟨g1,g2⟩ | ⟨g,want,t,g1,g2,g3⟩
  · rw [g2];simp [Region.wanted,g1];rfl
  · have hp:VR φ (s.tm.get (Pos.of t)) (a.tmps.getD t undef):=by
      have:=hr (Pos.of t) (by unfold cB.reads;rw [g3];simp);rw [Pos.qU]at this;exact this
    rw [g3];cases hw:rj (some (Pos.of t,want)) s.tm with
    | true=>
      rcases abA (φ:=φ) (yes:=true) (no:=false) g1 g2 hp hw with⟨q,_⟩ | ⟨_,q⟩
      · exact q
      · cases q
    | false=>
      have se:vM (some (Pos.of t,want)) s.tm false true=true:=by rw [acD,hw];rfl
      rcases abA (φ:=φ) g1 g2 hp se with⟨_,q⟩ | ⟨q,_⟩
      · cases q
      · exact q
theorem aw8 {xs:List Operand}{ys:List gp}(hm:xs.mapM vK=some ys)(hr:∀p,gp.t p∈ys→VR φ (s.tm.get p) (a.tmps.getD p.un undef)):LR φ (ys.map (mC s.tm)) (xs.map a.eval):=by
 classical
 obtain⟨vs,h1,h2⟩:=ajK (a:=a) (s:=s) (φ:=φ) (k:=fun vs=>decide (vs=ys.map (mC s.tm))) hm hr (by rw [H5];simp);have:vs=ys.map (mC s.tm):=by simpa using h2
 rw [←this];exact h1
theorem aw9 {i:Nat}{rest:List Nat}{todo:List Item}(hc:uS P nt ops o=some ao)(ho:ops[i]? =some o)(hr:∀p∈ao.reads,VR φ (s.tm.get p) (a.tmps.getD p.un undef))(H:HR P w0 φ s.h w)(hp:vX N s φ ao d):
 ∃v' w' φ',Steps P (lone (b.atR a (.inRegion ops (i::rest)::todo)) cs w) (lone (b.atR (a.put o.dst v') (.inRegion ops rest::todo)) cs w')∧VR φ' (s.tm.get d) v'∧HR P w0 φ' s.h w'∧(N≤s.h.nx→Ext N φ φ')∧
  (∀f,f<s.h.nx→φ f=none→¬AI s ao d f→φ' f=none):=by
 classical
 have hg:=aw7 (i:=i) hc hr;obtain⟨act,xs,args,h1,h2,rfl,rfl,h4,h5⟩:=HP hc
 have oV:LR φ (ao.args.map (mC s.tm)) (xs.map a.eval):=aw8 h2 fun p hp=>hr p (by
  unfold cB.reads;exact zaO _ (List.mem_filterMap.2 ⟨.t p,hp,rfl⟩))
 cases hp with
 | off hw hu=>
  rw [hw]at hg;refine⟨undef,w,φ,.one ?_,by rw [hu];exact VR.undef φ,H,fun _=>Ext.refl _ _,fun f _ h _=>h⟩;have:=stepR_op_skip (P:=P) (b:=b) (a:=a) (k:=todo) (cs:=cs) (w:=w) (ops:=ops) (i:=i) (rest:=rest) (by simp [ho,hg]);rw [ho]at this;exact this
 | val p hw ha yF hm v hv hd=>
  rw [hw]at hg;rw [ha]at h1;rcases h1 with h1 | ⟨h1,_⟩
  rotate_left
  · cases h1;cases yF
  obtain⟨v',w',u,h',φ',q1,q2,q3,q4,q5,q6⟩:=ajv (fun _=>rfl) h1 H oV (hd s.h (fun u h'=>decide (u=v∧h'=s.h)) (qt.refl _) (by simp));obtain⟨rfl,rfl⟩:u=v∧h'=s.h:=by simpa using q2
  refine⟨v',w',φ',?_,(hv _ _).1 q5,q6,fun hN=>q3.mono hN,fun f hf h _=>q3.out f hf h⟩;have hs:=Ar (b:=b) (a:=a) (abw h1);rcases q1 with q1 | ⟨q1,rfl⟩
  · exact .one (abt ho hg (by rw [hs];exact q1))
  · exact .one (ajB ho hg (by rw [hs];exact q1))
 | made p hw ha hm f ty l m c hf TE hob hcm Ct hlen hφ hn hN=>
  rw [hw]at hg;rw [ha]at h1;rcases h1 with h1 | ⟨h1,_⟩
  rotate_left
  · cases h1;cases hm
  obtain⟨l',kS,dT⟩:=awW (w:=w) h1 hm oV hf;have AJ:LR φ m l':=(Ct _ _).1 kS;have aI0:l.length=l'.length:=kS.length
  obtain⟨H2,hE⟩:=H.newAt (f:=f) (h':=s.h) (o':=.cells l'.toArray ty) (d:=0) (n:=l'.length) hφ hob (fun _ _ _=>rfl) H.fresh H.top hn N hN (.cells _ _ _ _ _ _ _ _ _ (fun _=>rfl) (zad _) (by simp) fun q _ hq=>by
   have hqm:q<m.length:=by omega
   obtain⟨u,hu,hru⟩:=LR.get AJ q _ (zab hqm);exact⟨m[q],u,hcm q _ (zab hqm),by simpa using hu,hru⟩)
  refine⟨p.made w.heap.size,_,_,.one (abt ho hg (by rw [Ar (abw h1)];exact dT)),?_,H2,fun _=>hE,fun g xe h eM=>?_⟩
  · rw [TE];exact awX h1 hm _ _ _
  · have:g≠f:=fun e=>eM ⟨p,ha,hm,hw,by rw [e];exact TE⟩
    rw [aY.mi _ _ this];exact h
end
section
variable {P:Program}{w0 w:World}{φ:aY}{nt:Nat}{ops:Array Oper}{as:Array cB}{s:St}{b:Frame}{cs0 cs:List Frame}{a:Act}{N:Nat}{done gq:List Nat}{L:Array Bool}
structure Inv (P:Program) (w0:World) (N nt:Nat) (ops:Array Oper) (as:Array cB) (b:Frame) (cs0:List Frame) (done gq:List Nat) (L:Array Bool) (φ:aY) (s:St) (cs:List Frame) (a:Act) (w:World):Prop where
 size:L.size=ops.size
 sub:∀j,L.getD j false=true→j∈done
 late:∀j∈done,L.getD j false=false→j∈gq
 H6:∀j∈gq,yE ops as j=false∧j∈done
 closed:∀j,L.getD j false=true→∀p∈ju ops j,L.getD p false=true
 Fo:AG ops done
 lt:∀j∈done,j<ops.size
 sq:SQ P w0 φ s b cs0 cs a w
 Cu:nt≤a.tmps.size
 yG:∀p:Pos,(∀j∈done,L.getD j false=false→mD as j≠some p)→VR φ (s.tm.get p) (a.tmps.getD p.un undef)
 prom:∀j∈done,L.getD j false=false→∀(ao:cB) (d:Pos),as[j]? =some ao→ao.dst=some d→vX N s φ ao d
 TF:∀i∈done,∀j∈done,L.getD i false=false→L.getD j false=false→i≠j→∀(ao L5:cB) (d d':Pos) (f:Nat),as[i]? =some ao→as[j]? =some L5→ao.dst=some d→L5.dst=some d'→AI s ao d f→AI s L5 d' f→False
 nx:N≤s.h.nx
theorem Inv.reads (I:Inv P w0 N nt ops as b cs0 done gq L φ s cs a w)(hr:tD P nt ops as)(hs:AF ops as=true){i:Nat}{ao:cB}(hi:as[i]? =some ao)(hb:∀p∈ju ops i,L.getD p false=true)(sf:i∈done→yE ops as i=false)(p:Pos)(hp:p∈ao.reads):
 VR φ (s.tm.get p) (a.tmps.getD p.un undef):=by
 refine I.yG p fun j hj pP vN=>?_
 by_cases hjb:j∈ju ops i
 · rw [hb j hjb]at pP;cases pP
 · have alc:=acH hr hi hp vN hjb;rw [(I.H6 j (I.late j hj pP)).1]at alc;cases alc
theorem Fp (L:Array Bool)(i j:Nat)(hi:i<L.size):(L.setIfInBounds i true).getD j false=if j=i then true else L.getD j false:=by
 by_cases h:j=i
 · subst h;simp [hi]
 · rw [if_neg h];exact getD_set_ne false (Ne.symm h)
theorem vX.ext {N φ' ao d}(h:vX N s φ ao d)(hE:∀f,f<s.h.nx→φ f=none→AI s ao d f→φ' f=none):vX N s φ' ao d:=by
 cases h with
 | off h hu=>exact .off h hu
 | val p h ha yF hm v hv hd=>exact .val p h ha yF hm v hv hd
 | made p h ha hm f ty l m c hf hs ho hc Ct hlen hφ hn hN=>exact .made p h ha hm f ty l m c hf hs ho hc Ct hlen (hE f hn hφ ⟨p,ha,hm,h,hs⟩) hn hN
theorem Inv.exec (I:Inv P w0 N nt ops as b cs0 done gq L φ s cs a w)(hr:tD P nt ops as)(hs:AF ops as=true){i:Nat}(hi:i∈done)(pP:L.getD i false=false)(hb:∀p∈ju ops i,L.getD p false=true){rest:List Nat}{todo:List Item}:
 ∃φ' a' w',Steps P (lone (b.atR a (.inRegion ops (i::rest)::todo)) cs w) (lone (b.atR a' (.inRegion ops rest::todo)) cs w')∧Ext N φ φ'∧Inv P w0 N nt ops as b cs0 done gq (L.setIfInBounds i true) φ' s cs a' w':=by
 have cy:=I.lt i hi;have sf:=(I.H6 i (I.late i hi pP)).1;obtain⟨ao,d,im,ald,hd⟩:=ala sf;obtain⟨o,ho,hc⟩:=hr.op im;have hP:=I.prom i hi pP ao d im hd;obtain⟨v',w',φ',h1,h2,h3,h4,h5⟩:=aw9 (b:=b) (cs:=cs) (rest:=rest) (todo:=todo) hc ho (I.reads hr hs im hb (fun _=>sf)) I.sq.heap hP;have hE:=h4 I.nx;obtain⟨act,xs,args,e1,e2,e3,e4,e5,e6⟩:=HP hc
 obtain⟨dn,Ln,TG,uW⟩:∃dn,o.dst=some dn∧dn<nt∧d=Pos.of dn:=by
  rcases e5 with⟨_,q⟩ | ⟨dn,q1,q2,q3⟩
  · rw [q]at hd;cases hd
  · rw [q3]at hd;cases hd;exact⟨dn,q1,q2,rfl⟩
 have ale:d.un=dn:=by rw [uW,Pos.qU]
 have vN:mD as i=some d:=by unfold mD;rw [im];exact hd
 have ee:=fun j=>Fp L i j (by rw [I.size];exact cy)
 refine⟨φ',a.put o.dst v',w',h1,hE,?_⟩;refine⟨by simp [I.size],?_,?_,I.H6,?_,I.Fo,I.lt,⟨by rw [Act.SV];exact I.sq.df.ext hE,I.sq.rc.ext hE,h3⟩,by rw [Ln];simpa [Act.put]using I.Cu,?_,?_,?_,I.nx⟩
 · intro j hj;rw [ee]at hj;split at hj
   · rename_i e;rw [e];exact hi
   · exact I.sub j hj
 · intro j hj hu;rw [ee]at hu;split at hu
   · cases hu
   · exact I.late j hj hu
 · intro j hj p hp;rw [ee]at hj ⊢;split at hj
   · rename_i e;subst e;split
     · rfl
     · exact hb p hp
   · split
     · rfl
     · exact I.closed j hj p hp
 · intro p hp;rw [Ln]
   by_cases tE:p=d
   · subst tE;have je:dn<a.tmps.size:=za1 TG I.Cu;have:(a.put (some dn) v').tmps.getD p.un undef=v':=by rw [ale];simp [Act.put,je]
     rw [this];exact h2
   · have eM:dn≠p.un:=fun e=>tE (Pos.B2 (by rw [ale,e]))
     have:(a.put (some dn) v').tmps.getD p.un undef=a.tmps.getD p.un undef:=by
      simp [Act.put,zbb,Array.getElem?_setIfInBounds_ne eM]
     rw [this];refine VR.ext hE (I.yG p fun j hj hu=>?_)
     by_cases AK:j=i
     · rw [AK,vN];intro e;cases e;exact tE rfl
     · exact hp j hj (by rw [ee,if_neg AK];exact hu)
 · intro j hj hu aj dj iO oj;rw [ee]at hu;split at hu
   · cases hu
   · rename_i eM;exact(I.prom j hj hu aj dj iO oj).ext fun f hf hn hM=>h5 f hf hn fun hM'=>I.TF j hj i hi hu pP eM aj ao dj d f iO im oj hd hM hM'
 · intro i1 L7 j1 AL sh pI eM;rw [ee]at sh pI;split at sh
   · cases sh
   · split at pI
     · cases pI
     · exact I.TF i1 L7 j1 AL sh pI eM
end
section
variable {P:Program}{w0 w:World}{φ:aY}{nt:Nat}{ops:Array Oper}{as:Array cB}{s:St}{b:Frame}{cs0 cs:List Frame}{a:Act}{N:Nat}{done gq:List Nat}{L:Array Bool}
theorem H7 {ao:cB}{t t':PT}(h:∀p∈ao.reads,t.get p=t'.get p):rj ao.guard t=rj ao.guard t':=by
 cases hg:ao.guard with
 | none=>rfl
 | some pw=>
  obtain⟨p,want⟩:=pw;have:=h p (by unfold cB.reads;rw [hg];simp);show PT.fY p t _=PT.fY p t' _;rw [PT.oX,PT.oX,this]
theorem TH {ao:cB}{t t':PT}(h:∀p∈ao.reads,t.get p=t'.get p):ao.args.map (mC t)=ao.args.map (mC t'):=by
 refine List.map_congr_left fun x hx=>?_;cases x with
 | c v=>rfl
 | t p=>exact h p (by unfold cB.reads;exact zaO _ (List.mem_filterMap.2 ⟨.t p,hx,rfl⟩))
theorem vX.state {ao:cB}{d:Pos}{s':St}(h:vX N s φ ao d)(hr:∀p∈ao.reads,s.tm.get p=s'.tm.get p)(hd:s.tm.get d=s'.tm.get d)(hle:qt s.h s'.h)(nM:s.h.nx≤s'.h.nx):vX N s' φ ao d:=by
 have h1:=H7 hr;have h2:=TH hr;cases h with
 | off h hu=>exact .off (h1▸h) (hd▸hu)
 | val p h ha yF hm v hv hdt=>exact .val p (h1▸h) ha yF hm v (hd▸hv) (fun hh k2 hl hk=>h2▸hdt hh k2 (hle.trans hl) hk)
 | made p h ha hm f ty l m c hf hs ho hc Ct hlen hφ hn hN=>exact .made p (h1▸h) ha hm f ty l m c (h2▸hf) (hd▸hs) (hle _ _ ho) hc Ct hlen hφ (za1 hn nM) hN
theorem AI.state {ao:cB}{d:Pos}{f:Nat}{s':St}(h:AI s' ao d f)(hr:∀p∈ao.reads,s.tm.get p=s'.tm.get p)(hd:s.tm.get d=s'.tm.get d):AI s ao d f:=by
 obtain⟨p,h1,h2,h3,h4⟩:=h;exact⟨p,h1,h2,by rw [H7 hr];exact h3,by rw [hd];exact h4⟩
theorem Inv.grow (I:Inv P w0 N nt ops as b cs0 done gq L φ s cs a w)(hr:tD P nt ops as)(hs:AF ops as=true){i:Nat}{ao:cB}{d:Pos}(hid:i∉done)(hb:∀p∈ju ops i,p∈done)(im:as[i]? =some ao)(hd:ao.dst=some d)(sf:yE ops as i=false)
    {s':St}{v:Z}(ik:s'.tm=s.tm.set d v) (Ch:s'.df=s.df) (oh:s'.rc=s.rc) (H:HR P w0 φ s'.h w) (hle:qt s.h s'.h) (nM:s.h.nx≤s'.h.nx) (hP:vX N s' φ ao d) (hM:∀f,AI s' ao d f→s.h.nx≤f):
    Inv P w0 N nt ops as b cs0 (i::done) (i::gq) L φ s' cs a w:=by
  have vN:mD as i=some d:=by unfold mD;rw [im];exact hd
  have pP:L.getD i false=false:=by
    cases h:L.getD i false with
    | false=>rfl
    | true=>exact absurd (I.sub i h) hid
  have get:∀p,p≠d→s.tm.get p=s'.tm.get p:=fun p hp=>by rw [ik,PT.fR,if_neg hp]
  have Cv:∀j∈done,∀aj:cB,as[j]? =some aj→∀p∈aj.reads,s.tm.get p=s'.tm.get p:=fun j hj aj iO p hp=>get p fun e=>by
    subst e
    by_cases TI:i∈ju ops j
    · exact hid (I.Fo.closed j hj i TI)
    · have:=acH hr iO hp vN TI;rw [sf]at this;cases this
  have Cw:∀j∈done,∀(aj:cB) (dj:Pos),as[j]? =some aj→aj.dst=some dj→s.tm.get dj=s'.tm.get dj:=fun j hj aj dj iO oj=>get dj fun e=>by
    subst e;have hjd:mD as j=some dj:=by unfold mD;rw [iO];exact oj
    have:=ak9 hr hs hjd vN;subst this;exact hid hj
  refine⟨I.size,fun j hj=>zaj _ (I.sub j hj),?_,?_,I.closed,.cons _ _ hid hb I.Fo,?_,⟨Ch▸I.sq.df,oh▸I.sq.rc,H⟩,I.Cu,?_,?_,?_,zay I.nx nM⟩
  · intro j hj hu;rcases List.mem_cons.1 hj with rfl | hj
    · exact zai
    · exact zaj _ (I.late j hj hu)
  · intro j hj;rcases List.mem_cons.1 hj with rfl | hj
    · exact⟨sf,zai⟩
    · exact⟨(I.H6 j hj).1,zaj _ (I.H6 j hj).2⟩
  · intro j hj;rcases List.mem_cons.1 hj with rfl | hj
    · exact hr.lt im
    · exact I.lt j hj
  · intro p hp;have tE:p≠d:=fun e=>hp i zai pP (by rw [e];exact vN)
    rw [←get p tE];exact I.yG p fun j hj hu=>hp j (zaj _ hj) hu
  · intro j hj hu aj dj iO oj;rcases List.mem_cons.1 hj with rfl | hj
    · rw [im]at iO;cases iO;rw [hd]at oj;cases oj;exact hP
    · exact(I.prom j hj hu aj dj iO oj).state (Cv j hj aj iO) (Cw j hj aj dj iO oj) hle nM
  · have old:∀j∈done,L.getD j false=false→∀(aj:cB) (dj:Pos) (f:Nat),as[j]? =some aj→aj.dst=some dj→AI s' aj dj f→f<s.h.nx:=by
      intro j hj hu aj dj f iO oj hm;obtain⟨p,q1,q2,q3,q4⟩:=hm.state (Cv j hj aj iO) (Cw j hj aj dj iO oj);cases I.prom j hj hu aj dj iO oj with
      | off h hu=>rw [q3]at h;cases h
      | val p' h ha yF hm v hv hdt=>rw [ha]at q1;cases q1;rw [hm]at q2;cases q2
      | made p' h ha hm f' ty l m c hf TE ho hc Ct hlen hφ hn hN=>rw [TE]at q4;rw [←alb q4];exact hn
    intro i1 L7 j1 AL sh pI eM a1 a2 d1 d2 f h1 h2 h3 h4 m1 m2;rcases List.mem_cons.1 L7 with rfl | jK<;>rcases List.mem_cons.1 AL with rfl | yH
    · exact eM rfl
    · rw [im]at h1;cases h1;rw [hd]at h3;cases h3;have q1:=hM f m1;have q2:=old j1 yH pI a2 d2 f h2 h4 m2;omega
    · rw [im]at h2;cases h2;rw [hd]at h4;cases h4;have q1:=hM f m2;have q2:=old i1 jK sh a1 d1 f h1 h3 m1;omega
    · exact I.TF i1 jK j1 yH sh pI eM a1 a2 d1 d2 f h1 h2 h3 h4 (m1.state (Cv i1 jK a1 h1) (Cw i1 jK a1 d1 h1 h3)) (m2.state (Cv j1 yH a2 h2) (Cw j1 yH a2 d2 h2 h4))
end
section
variable {P:Program}{w0 w:World}{φ:aY}{nt:Nat}{ops:Array Oper}{as:Array cB}{s:St}{b:Frame}{cs0 cs:List Frame}{a:Act}{N:Nat}{done gq:List Nat}{L:Array Bool}
theorem HR.spare {h}(H:HR P w0 φ h w){o:AO}{bU:NT AO}(hs:h.ob.mU h.nx (some o) bU):HR P w0 φ ⟨h.nx+1,bU⟩ w:=by
 have eM:∀f,φ f≠none→f≠h.nx:=fun f hf e=>hf (by rw [e];exact H.fresh _ (zad _))
 refine⟨H.inj,fun f hf=>H.fresh f (by have:h.nx+1≤f:=hf;omega),fun f hf=>?_,fun f hf=>?_,fun f bl d n hf=>?_,H.below⟩
 · have:h.nx+1≤f:=hf;show bU.get f=none;rw [hs.2 f (by omega)];exact H.top f (by omega)
 · show bU.get f=none;rw [hs.2 f (eM f (by rw [hf];simp))];exact H.dead f hf
 · obtain⟨o1,o2,q1,q2⟩:=H.obj f bl d n hf;exact⟨o1,o2,by show bU.get f=some o1;rw [hs.2 f (eM f (by rw [hf];simp))];exact q1,q2⟩
theorem qt.spare {h}(H:HR P w0 φ h w){o:AO}{bU:NT AO}(hs:h.ob.mU h.nx (some o) bU):qt h ⟨h.nx+1,bU⟩:=fun f o1 ho=>by
 have:f≠h.nx:=fun e=>by rw [e,H.top _ (zad _)]at ho;cases ho
 show bU.get f=some o1;rw [hs.2 f this];exact ho
theorem Inv.alf (I:Inv P w0 N nt ops as b cs0 done gq L φ s cs a w)(hr:tD P nt ops as)(hs:AF ops as=true){i:Nat}{ao:cB}(hid:i∉done)(hb:∀p∈ju ops i,p∈done)(im:as[i]? =some ao)(sf:yE ops as i=false)
 {rec:Task→Bool}{e:Env}{fail:KS}{k:St→Bool}(h:Cg rec ao e s fail k=true):∃s',k s'=true∧Inv P w0 N nt ops as b cs0 (i::done) (i::gq) L φ s' cs a w∧s.h.nx≤s'.h.nx:=by
 obtain⟨L5,d,alg,ald,hd⟩:=ala sf;rw [im]at alg;cases alg;obtain⟨p,hp,hpa⟩:=aw4 ald;have vN:mD as i=some d:=by unfold mD;rw [im];exact hd
 have axa:d∉ao.reads:=fun hm=>by
  have TI:i∉ju ops i:=fun h=>hid (hb i h)
  have:=acH hr im hm vN TI;rw [sf]at this;cases this
 have h1:(bif rj ao.guard s.tm then p.ev (ao.args.map (mC s.tm)) s.h (fun v h=>mg (some d) s v h k)else mg (some d) s undef s.h k)=true:=by
  have h':vM ao.guard s.tm (vL ao.args s.tm (HQ rec ao.act ao.dst e s fail k)) (mg ao.dst s undef s.h k)=true:=by cases ao;exact h
  rw [acD,H5,hd,hp]at h';exact h'
 have bt:∀(v:Z) (q:Pos),q∈ao.reads→(s.tm.set d v).get q=s.tm.get q:=fun v q hq=>by rw [PT.fR,if_neg (fun e=>axa (by rw [←e];exact hq))]
 cases hw:rj ao.guard s.tm with
 | false=>
  rw [hw]at h1;have h2:mg (some d) s undef s.h k=true:=h1;rw [L3]at h2;have se:rj ao.guard (s.tm.set d undef)=false:=by rw [H7 (bt undef)];exact hw
  refine⟨_,h2,I.grow hr hs hid hb im hd sf (v:=undef) rfl rfl rfl I.sq.heap (qt.refl _) (zad _) (.off se (by simp [PT.fR])) (fun f hm=>?_),zad _⟩;obtain⟨_,_,_,q3,_⟩:=hm;have Cb:rj ao.guard (s.tm.set d undef)=true:=q3;rw [se]at Cb;cases Cb
 | true=>
  rw [hw]at h1;have h2:p.ev (ao.args.map (mC s.tm)) s.h (fun v h=>mg (some d) s v h k)=true:=h1;cases hm:p.makes with
  | false=>
   obtain⟨v,h3,h4⟩:=ak1 p hpa hm _ _ _ h2;rw [L3]at h3;have se:rj ao.guard (s.tm.set d v)=true:=by rw [H7 (bt v)];exact hw
   refine⟨_,h3,I.grow hr hs hid hb im hd sf (v:=v) rfl rfl rfl I.sq.heap (qt.refl _) (zad _) (.val p se hp hpa hm v (by simp [PT.fR];exact nP.refl v) (fun hh k2 hl hk=>?_)) (fun f L8=>?_),zad _⟩
   · show p.ev (ao.args.map (mC (s.tm.set d v))) hh k2=true;rw [TH (bt v)];exact h4 hh k2 hl hk
   · obtain⟨p',q1,q2,_,_⟩:=L8;rw [hp]at q1;cases q1;rw [hm]at q2;cases q2
  | true=>
   obtain⟨ty,l,c,bU,h3,h4,h5,h6,h7⟩:=awV hm h2;rw [L3]at h7;have se:rj ao.guard (s.tm.set d (p.made s.h.nx))=true:=by rw [H7 (bt _)];exact hw
   refine⟨_,h7,I.grow hr hs hid hb im hd sf (v:=p.made s.h.nx) rfl rfl rfl (I.sq.heap.spare h6) (qt.spare I.sq.heap h6) (za5 _) (.made p se hp hm s.h.nx ty l l c ?_ (by simp [PT.fR]) h6.1 h5 (uV.refl l) rfl (I.sq.heap.fresh _ (zad _)) (zax _) I.nx) (fun f L8=>?_),za5 _⟩
   · show L4 p (ao.args.map (mC (s.tm.set d (p.made s.h.nx)))) ty l;rw [TH (bt _)];exact h3
   · obtain⟨p',q1,q2,_,q4⟩:=L8;have SI:(s.tm.set d (p.made s.h.nx)).get d=p'.made f:=q4;rw [PT.fR,if_pos rfl]at SI;rw [←alb SI];exact zad _
end
section
variable {P:Program}{w0 w:World}{φ:aY}{nt:Nat}{ops:Array Oper}{as:Array cB}{s:St}{b:Frame}{cs0 cs:List Frame}{a:Act}{N:Nat}{done gq:List Nat}{L:Array Bool}
theorem vX.mz {ao d s' φ'}(h:vX N s φ ao d)(q9:ao.dst=some d)(hr:∀p∈ao.reads,s.tm.get p=s'.tm.get p)(hd:s.tm.get d=s'.tm.get d)(hE:Ext s.h.nx φ φ')(nM:s.h.nx≤s'.h.nx)(hc:H0 ao s'=true):vX N s' φ' ao d:=by
 have h1:=H7 hr;have h2:=TH hr
 have jf:(bif rj ao.guard s'.tm then(nH.casesOn (motive:=fun _=>Bool) ao.act (LV ao.dst s' (ao.args.map (mC s'.tm))) tC false false false false)else true)=true:=by
  have h':vM ao.guard s'.tm (vL ao.args s'.tm fun vs=>nH.casesOn (motive:=fun _=>Bool) ao.act (LV ao.dst s' vs) tC false false false false) true=true:=by cases ao;exact hc
  rw [acD,H5]at h';exact h'
 cases h with
 | off h hu=>exact .off (h1▸h) (hd▸hu)
 | val p h ha yF hm v hv hdt=>
  rw [h1]at h;rw [h,ha,q9]at jf;have H8:PT.fY d s'.tm (fun v=>bif p.makes then p.fresh (ao.args.map (mC s'.tm)) (Fi s' v)else p.ev (ao.args.map (mC s'.tm)) s'.h (LU v))=true:=jf;rw [PT.oX,hm]at H8;obtain⟨u,q1,q2⟩:=ak1 p yF hm _ _ _ (show p.ev (ao.args.map (mC s'.tm)) s'.h (LU (s'.tm.get d))=true from H8);exact .val p h ha yF hm u (awT q1) q2
 | made p h ha hm f ty l m c hf hs ho vY Ct hlen hφ hn hN=>
  rw [h1]at h;rw [h,ha,q9]at jf;have H8:PT.fY d s'.tm (fun v=>bif p.makes then p.fresh (ao.args.map (mC s'.tm)) (Fi s' v)else p.ev (ao.args.map (mC s'.tm)) s'.h (LU v))=true:=jf;rw [PT.oX,hm]at H8;obtain⟨dY,l',q1,q2⟩:=awU (show p.fresh (ao.args.map (mC s'.tm)) (Fi s' (s'.tm.get d))=true from H8);rw [←hd,hs]at q1;have q1':acs (p.made f) (fun b=>rf s'.h b fun lo hi axb rw c=>iff (rw&&Nat.beq lo 0&&Nat.beq hi l'.length&&Nat.beq dY axb) (vU c 0 l'.length fun m=>Fh m l'))=true:=q1;rw [awY]at q1';obtain⟨lo,hi,ty2,rw2,c2,u1,u2⟩:=AM q1';obtain⟨u3,u4⟩:=dX u2;obtain⟨m',u5,u6,u7⟩:=TJ _ u4;simp only [zae,Nat.beq_eq]at u3;obtain⟨⟨⟨e1,e2⟩,e3⟩,e4⟩:=u3;subst e1;subst e2;subst e3;subst e4;exact .made p h ha hm f dY l' m' c2 q2 (hd▸hs) u1 (fun j v hj=>by have:=u7 j v hj;rwa [zav]at this) (fun φ x=>(TC u5 φ x).symm) u6 (hE.out f hn hφ) (za1 hn nM) hN
end
section
variable {P:Program}{w0 w:World}{φ:aY}{ops:Array Oper}{as:Array cB}{s:St}{e:Env}{b:Frame}{cs0 cs:List Frame}{a:Act}{N:Nat}{done gq:List Nat}{L:Array Bool}
theorem Inv.act (I:Inv P w0 N e.nt ops as b cs0 done gq L φ s cs a w)(hr:tD P e.nt ops as)(hs:AF ops as=true)(he:sc φ e b){rec:Task→Bool}(eQ:∀t,rec t=true→fS P w0 t){i:Nat}{ao:cB}(hid:i∉done)(im:as[i]? =some ao)(yI:∀p∈ju ops i,L.getD p false=true)
 {k:KS}{late:List Nat}(alm:∀j∈gq,L.getD j false=false→j∈late) (hlp:∀j∈late,j∈gq){mz r:List nI}(hch:L6 as late=some mz) (h:Cg rec ao e s k (fun s=>vO rec (mz++r) e s k)=true){rest:List Nat}{todo:List Item}:
 (∃φ' s' ew a' w',vO rec r e s' k=true∧Ext N φ φ'∧Inv P w0 N e.nt ops as b cs0 (i::done) late (L.setIfInBounds i true) φ' s' ew a' w'∧Steps P (lone (b.atR a (.inRegion ops (i::rest)::todo)) cs w) (lone (b.atR a' (.inRegion ops rest::todo)) ew w'))∨
 mW P w0 φ N e b cs0 (lone (b.atR a (.inRegion ops (i::rest)::todo)) cs w) todo k:=by
 obtain⟨o,ho,hc⟩:=hr.op im;have cy:=hr.lt im;rcases ajL (rest:=rest) (todo:=todo) eQ hc ho I.sq he (I.reads hr hs im yI fun hi=>absurd hi hid) h with⟨v,v',s1,φ',w',ew,og,h1,h2,h3,h4,h5,h6,h7⟩ | ⟨v,v',s1,φ',w',h1,h3,h4,h5,h6,h7⟩
 · left;rw [L3]at h1;obtain⟨axd,hk⟩:=aw6 hch h1;obtain⟨act,xs,args,e1,e2,e3,e4,e5,e6⟩:=HP hc;have ee:=fun j=>Fp L i j (by rw [I.size];exact cy)
   have hb:∀p∈ju ops i,p∈done:=fun p hp=>I.sub p (yI p hp)
   have pP:L.getD i false=false:=by
    cases hh:L.getD i false with
    | false=>rfl
    | true=>exact absurd (I.sub i hh) hid
   have get:∀p,ao.dst≠some p→s.tm.get p=(match ao.dst with | none=>s1.tm | some q=>s1.tm.set q v).get p:=by
    intro p hp;cases hd:ao.dst with
    | none=>simp only;rw [h2]
    | some q=>
     simp only;rw [PT.fR,if_neg (fun e=>hp (by rw [hd,e])),h2]
   have Cv:∀j∈done,L.getD j false=false→∀aj:cB,as[j]? =some aj→∀p∈aj.reads,ao.dst≠some p:=fun j hj hu aj iO p hp hd=>by
    have hdi:mD as i=some p:=by unfold mD;rw [im];exact hd
    rcases aw3 hr hs iO hp hdi with rfl | h | h
    · exact hid hj
    · exact hid (I.Fo.closed j hj i h)
    · rw [yI j h]at hu;cases hu
   have Cw:∀j∈done,∀(aj:cB) (dj:Pos),as[j]? =some aj→aj.dst=some dj→ao.dst≠some dj:=fun j hj aj dj iO oj hd=>by
    have hdi:mD as i=some dj:=by unfold mD;rw [im];exact hd
    have hjd:mD as j=some dj:=by unfold mD;rw [iO];exact oj
    have:=ak9 hr hs hjd hdi;subst this;exact hid hj
   refine⟨φ',_,ew,_,w',hk,h3.mono I.nx,?_,h7⟩;refine⟨by simp [I.size],?_,?_,?_,?_,.cons _ _ hid hb I.Fo,?_,⟨by rw [Act.SV];exact h6.df,h6.rc,h6.heap⟩,?_,?_,?_,?_,zay I.nx h4⟩
   · intro j hj;rw [ee]at hj;split at hj
     · rename_i e;rw [e];exact zai
     · exact zaj _ (I.sub j hj)
   · intro j hj hu;rw [ee]at hu;split at hu
     · cases hu
     · rename_i eM;rcases List.mem_cons.1 hj with hj | hj
       · exact absurd hj eM
       · exact alm j (I.late j hj hu) hu
   · intro j hj;have:=I.H6 j (hlp j hj);exact⟨this.1,zaj _ this.2⟩
   · intro j hj p hp;rw [ee]at hj ⊢;split at hj
     · rename_i e;subst e;split
       · rfl
       · exact yI p hp
     · split
       · rfl
       · exact I.closed j hj p hp
   · intro j hj;rcases List.mem_cons.1 hj with rfl | hj
     · exact cy
     · exact I.lt j hj
   · rcases e5 with⟨q1,_⟩ | ⟨dn,q1,_,_⟩
     · rw [q1];exact I.Cu
     · rw [q1];simpa [Act.put]using I.Cu
   · intro p hp
     have hold:ao.dst≠some p→VR φ' (s.tm.get p) (a.tmps.getD p.un undef):=fun tE=>VR.ext h3 (I.yG p fun j hj hu oj=>by
      by_cases AK:j=i
      · subst AK;exact hid hj
      · exact hp j (zaj _ hj) (by rw [ee,if_neg AK];exact hu) oj)
     by_cases tE:ao.dst=some p
     · rcases e5 with⟨_,q2⟩ | ⟨dn,q1,TG,q3⟩
       · rw [q2]at tE;cases tE
       · rw [q3]at tE;cases tE;have je:dn<a.tmps.size:=za1 TG I.Cu;rw [q1,q3,Pos.qU];have:(({a with defers:=og}:Act).put (some dn) v').tmps.getD dn undef=v':=by simp [Act.put,je]
         rw [this];simp only [PT.fR,if_true];exact h5
     · have hg:=get p tE
       have:(({a with defers:=og}:Act).put o.dst v').tmps.getD p.un undef=a.tmps.getD p.un undef:=by
        rcases e5 with⟨q1,_⟩ | ⟨dn,q1,TG,q3⟩
        · rw [q1];rfl
        · have eM:dn≠p.un:=fun e=>tE (by rw [q3];congr 1;exact Pos.B2 (by rw [Pos.qU,e]))
          rw [q1];simp [Act.put,zbb,Array.getElem?_setIfInBounds_ne eM]
       rw [this];have key:=hold tE;rw [hg]at key;exact key
   · intro j hj hu aj dj iO oj;rw [ee]at hu;split at hu
     · cases hu
     · rename_i eM;rcases List.mem_cons.1 hj with hj | hj
       · exact absurd hj eM
       · obtain⟨aj',aln,Al⟩:=axd j (alm j (I.late j hj hu) hu);rw [iO]at aln;cases aln;exact(I.prom j hj hu aj dj iO oj).mz oj (fun p hp=>get p (Cv j hj hu aj iO p hp)) (get dj (Cw j hj aj dj iO oj)) h3 h4 Al
   · intro i1 L7 j1 AL sh pI eM a1 a2 d1 d2 f g1 g2 g3 g4 m1 m2;rw [ee]at sh pI;split at sh
     · cases sh
     · rename_i n1;split at pI
       · cases pI
       · rename_i n2;rcases List.mem_cons.1 L7 with jK | jK
         · exact n1 jK
         · rcases List.mem_cons.1 AL with yH | yH
           · exact n2 yH
           · exact I.TF i1 jK j1 yH sh pI eM a1 a2 d1 d2 f g1 g2 g3 g4 (m1.state (fun p hp=>get p (Cv i1 jK sh a1 g1 p hp)) (get d1 (Cw i1 jK a1 d1 g1 g3))) (m2.state (fun p hp=>get p (Cv j1 yH pI a2 g2 p hp)) (get d2 (Cw j1 yH a2 d2 g2 g4)))
 · right;exact⟨.bC v,s1,φ',cs,a,w',h1,h3.mono I.nx,zay I.nx h4,h6,⟨_,v',h5,h7⟩⟩
end
section
variable {P:Program}{w0 w:World}{φ:aY}{ops:Array Oper}{as:Array cB}{s:St}{e:Env}{b:Frame}{cs0 cs:List Frame}{a:Act}{N:Nat}{done gq:List Nat}{L:Array Bool}
theorem alo {o j p}(ho:ops[j]? =some o):p∈ju ops j↔∃x∈o.after,Region.binds .any x=true∧x.on=p:=by
 unfold ju ali;rw [ho];simp only [zaM,zbp,Array.mem_toList_iff];constructor
 · rintro⟨x,⟨h1,h2⟩,h3⟩;exact⟨x,h1,h2,h3⟩
 · rintro⟨x,h1,h2,h3⟩;exact⟨x,⟨h1,h2⟩,h3⟩
theorem L9 (hL:L.size=ops.size){j:Nat}:j∈Region.ready .any ops L↔j<ops.size∧L.getD j false=false∧∀p∈ju ops j,L.getD p false=true:=by
 rw [mem_ready];constructor
 · rintro⟨h1,o,ho,h2⟩;have cy:j<ops.size:=(Array.getElem?_eq_some_iff.1 ho).1;refine⟨cy,?_,fun p hp=>?_⟩
   · have:j<L.size:=by omega
     simpa [Array.getD,this]using h1
   · obtain⟨x,q1,q2,rfl⟩:=(alo ho).1 hp;exact h2 x q1 q2
 · rintro⟨cy,h1,h2⟩;refine⟨?_,ops[j],by simp [cy],fun x hx hbx=>h2 x.on ((alo (by simp [cy])).2 ⟨x,hx,hbx,rfl⟩)⟩;have:j<L.size:=by omega
   simpa [Array.getD,this]using h1
theorem axe {md fuel t}(h:Region.ready md ops L=[]):Region.linearise.go md ops fuel t L []=[]:=by
 cases fuel with
 | zero=>simp [Region.linearise.go]
 | succ fuel=>
  simp only [Region.linearise.go]
  change (match (Region.ready md ops L)[t % (Region.ready md ops L).length]? with
   | some i=>Region.linearise.go md ops fuel (t / (Region.ready md ops L).length) (L.setIfInBounds i true) [i]
   | none=>[].reverse)=[]
  rw [h];rfl
theorem alp {md fuel t}(h:Region.ready md ops L≠[]):∃i t',i∈Region.ready md ops L∧Region.linearise.go md ops (fuel+1) t L []=i::Region.linearise.go md ops fuel t' (L.setIfInBounds i true) []:=by
 have hlen:0<(Region.ready md ops L).length:=List.length_pos_iff.2 h;have cy:t % (Region.ready md ops L).length<(Region.ready md ops L).length:=Nat.mod_lt _ hlen;have hi:(Region.ready md ops L)[t % (Region.ready md ops L).length]? =some (Region.ready md ops L)[t % (Region.ready md ops L).length]:=zab cy;refine⟨(Region.ready md ops L)[t % (Region.ready md ops L).length],t / (Region.ready md ops L).length,zbl cy,?_⟩
 conv=>lhs;simp only [Region.linearise.go]
 change (match (Region.ready md ops L)[t % (Region.ready md ops L).length]? with
  | some i=>Region.linearise.go md ops fuel (t / (Region.ready md ops L).length) (L.setIfInBounds i true) [i]
  | none=>[].reverse)=_
 rw [hi];simp only [];rw [linearise_go_acc,List.reverse_singleton,List.singleton_append]
def Ia (ops:Array Oper) (L:Array Bool):Nat:=(List.range ops.size).countP fun j=> !L.getD j false
theorem countP_set {p q r}(h:∀j,q j=true→p j=true∧j≠r)(hpr:p r=true):∀{l:List Nat},r∈l→l.countP q+1≤l.countP p:=by
  have mono:∀l:List Nat,l.countP q≤l.countP p:=fun l=>List.countP_mono_left fun x _ hx=>(h x hx).1
  intro l
  induction l with
  | nil=>intro hm;cases hm
  | cons x l ih=>
    intro hm
    by_cases hx:x=r
    · subst hx
      have hq:q x=false:=by
        cases hh:q x with
        | false=>rfl
        | true=>exact absurd rfl (h x hh).2
      have:=mono l;simp [List.countP_cons,hq,hpr];exact this
    · have vJ:r∈l:=by
        rcases List.mem_cons.1 hm with hm | hm
        · exact absurd hm.symm hx
        · exact hm
      have:=ih vJ;rw [List.countP_cons,List.countP_cons];cases hq:q x with
      | false=>simp;omega
      | true=>rw [(h x hq).1];simp;omega
theorem alq (hL:L.size=ops.size){i:Nat}(hi:i<ops.size)(hu:L.getD i false=false):Ia ops (L.setIfInBounds i true)+1≤Ia ops L:=by
 refine countP_set (r:=i) (fun j hj=>?_) (by rw [hu];rfl) (List.mem_range.2 hi);rw [Fp L i j (by omega)]at hj;split at hj
 · cases hj
 · rename_i eM;exact⟨hj,eM⟩
theorem acL {i}(hi:i<ops.size)(hu:L.getD i false=false):0<Ia ops L:=List.countP_pos_iff.2 ⟨i,List.mem_range.2 hi,by rw [hu];rfl⟩
theorem axf (hr:tD P e.nt ops as)(hs:AF ops as=true){rec:Task→Bool}(eQ:∀t,rec t=true→fS P w0 t){k:KS}{todo:List Item}:∀(n:Nat) (order:List Nat) (fuel t:Nat){done gq:List Nat}{L:Array Bool}{φ:aY}{s:St}{cs:List Frame}{a:Act}{w:World}{dl:List nI},
    order.length+fuel≤n→Inv P w0 N e.nt ops as b cs0 done gq L φ s cs a w→sc φ e b→Cy ops as done gq order=some dl→vO rec dl e s k=true→Ia ops L≤fuel→
    mW P w0 φ N e b cs0 (lone (b.atR a (.inRegion ops (Region.linearise.go .any ops fuel t L [])::todo)) cs w) todo k:=by
  intro n
  induction n with
  | zero=>
    intro order fuel t done gq L φ s cs a w dl hn I he lQ hk hu;have h0:order=[]:=by cases order with | nil=>rfl | cons _ _=>simp at hn
    have hf:fuel=0:=by omega
    subst h0;subst hf;unfold Cy at lQ;split at lQ
    · rename_i iz;cases lQ
      have AN:∀j,j<ops.size→L.getD j false=true:=fun j hj=>by
        cases h:L.getD j false with
        | true=>rfl
        | false=>have:=acL hj h;omega
      refine⟨.normal,s,φ,cs,a,w,hk,Ext.refl _ _,I.nx,⟨I.sq,I.Cu,fun p=>I.yG p fun j hj bP=>?_⟩,?_⟩
      · rw [AN j (I.lt j hj)]at bP;cases bP
      · simp only [Region.linearise.go,List.reverse_nil];exact .one stepR_region_end
    · cases lQ
  | succ n ih=>
    intro order fuel t done gq L φ s cs a w dl hn I he lQ hk hu
    have run:∀(i:Nat) (fuel t':Nat),order.length+fuel≤n→i∈done→L.getD i false=false→(∀p∈ju ops i,L.getD p false=true)→Ia ops L≤fuel+1→
        mW P w0 φ N e b cs0 (lone (b.atR a (.inRegion ops (i::Region.linearise.go .any ops fuel t' (L.setIfInBounds i true) [])::todo)) cs w) todo k:=by
      intro i fuel t' hn' hid pP yI bP;obtain⟨φ',a',w',h1,h2,h3⟩:=I.exec hr hs hid pP yI (rest:=Region.linearise.go .any ops fuel t' (L.setIfInBounds i true) []) (todo:=todo);have:=alq I.size (I.lt i hid) pP;exact(ih order fuel t' hn' h3 (he.ext h2) lQ hk (by omega)).of_steps h2 (zad _) h1
    cases order with
    | nil=>
      by_cases hex:∃x∈done,(fun j=> !L.getD j false) x=true
      · obtain⟨r,q1,q2,q3⟩:=I.Fo.first hex;have pP:L.getD r false=false:=by simpa using q2
        have vS:r∈Region.ready .any ops L:=(L9 I.size).2 ⟨I.lt r q1,pP,fun p hp=>by simpa using q3 p hp⟩;have uW:=acL (I.lt r q1) pP;obtain⟨f',rfl⟩:∃f',fuel=f'+1:=⟨fuel-1,by omega⟩;obtain⟨i,t',hi,EV⟩:=alp (fuel:=f') (t:=t) (List.ne_nil_of_mem vS);rw [EV];obtain⟨i1,i2,i3⟩:=(L9 I.size).1 hi;have iz:=lQ;unfold Cy at iz;split at iz
        · rename_i hc;have hid:i∈done:=by simpa using List.all_eq_true.1 hc i (List.mem_range.2 i1)
          exact run i f' t' (by first | (simp at hn ⊢;omega) | (simp at hn;omega)) hid i2 i3 (by omega)
        · cases iz
      · have iz:=lQ;unfold Cy at iz;split at iz
        · rename_i hc;cases iz
          have AN:∀j∈done,L.getD j false=true:=fun j hj=>by
            cases h:L.getD j false with
            | true=>rfl
            | false=>exact absurd ⟨j,hj,by simp [h]⟩ hex
          have vS:Region.ready .any ops L=[]:=by
            cases hq:Region.ready .any ops L with
            | nil=>rfl
            | cons x l=>
              have hx:x∈Region.ready .any ops L:=by rw [hq];exact zai
              obtain⟨i1,i2,_⟩:=(L9 I.size).1 hx;have:=AN x (by simpa using List.all_eq_true.1 hc x (List.mem_range.2 i1));rw [i2]at this;cases this
          rw [axe vS];refine⟨.normal,s,φ,cs,a,w,hk,Ext.refl _ _,I.nx,⟨I.sq,I.Cu,fun p=>I.yG p fun j hj bP=>?_⟩,.one stepR_region_end⟩;rw [AN j hj]at bP;cases bP
        · cases iz
    | cons i order=>
      have aI1:=lQ;unfold Cy at lQ;split at lQ
      · cases lQ
      · rename_i ao im;split at lQ
        · rename_i als;simp only [zae,zbc,List.contains_eq_mem,zbk]at als;obtain⟨hid,hb⟩:=als;have dN:∀p∈ju ops i,p∈done:=fun p hp=>by simpa using List.all_eq_true.1 hb p hp
          split at lQ
          · rename_i sf;split at lQ
            · rename_i axg;split at lQ
              · rename_i mz r hch AP;cases lQ
                have pP:L.getD i false=false:=by
                  cases hh:L.getD i false with
                  | false=>rfl
                  | true=>exact absurd (I.sub i hh) hid
                have hT:AG ops (i::done):=.cons _ _ hid dN I.Fo;obtain⟨r0,q1,q2,q3⟩:=hT.first (u:=fun j=> !L.getD j false) ⟨i,zai,by simp only [pP];rfl⟩;have alu:L.getD r0 false=false:=by simpa using q2
                have alv:r0<ops.size:=by
                  rcases List.mem_cons.1 q1 with rfl | q1
                  · exact hr.lt im
                  · exact I.lt r0 q1
                have vS:r0∈Region.ready .any ops L:=(L9 I.size).2 ⟨alv,alu,fun p hp=>by simpa using q3 p hp⟩;have uW:=acL alv alu;obtain⟨f',rfl⟩:∃f',fuel=f'+1:=⟨fuel-1,by omega⟩;obtain⟨i',t',hi,EV⟩:=alp (fuel:=f') (t:=t) (List.ne_nil_of_mem vS);rw [EV];obtain⟨i1,i2,i3⟩:=(L9 I.size).1 hi
                by_cases TM:i'∈done
                · exact run i' f' t' (by first | (simp at hn ⊢;omega) | (simp at hn;omega)) TM i2 i3 (by omega)
                · have S8:i'=i:=by
                    have:=List.all_eq_true.1 axg i' (List.mem_range.2 i1);simp only [zbi,List.contains_eq_mem,zap,zbg,zbc]at this;rcases this with(h | h) | h
                    · exact absurd h TM
                    · exact h
                    · have:(ju ops i').all done.contains=true:=List.all_eq_true.2 fun p hp=>by simpa using I.sub p (i3 p hp)
                      rw [this]at h;cases h
                  subst S8;have axh:∀j∈Cs ops (ju ops i') done,L.getD j false=true:=aw5 (good:=fun j=>L.getD j false=true) I.closed done _ i3
                  rcases I.act hr hs he eQ hid im i3 (late:=gq.filter fun j=> !(Cs ops (ju ops i') done).contains j) (fun j hj bP=>by
                    refine List.mem_filter.2 ⟨hj,?_⟩;simp only [zbc,List.contains_eq_mem,zbk];intro hc;rw [axh j hc]at bP;cases bP) (fun j hj=>(List.mem_filter.1 hj).1) hch hk (rest:=Region.linearise.go .any ops f' t' (L.setIfInBounds i' true) []) (todo:=todo)with⟨φ',s',ew,a',w',z1,z2,z3,z4⟩ | z
                  · have:=alq I.size i1 i2;exact(ih order f' t' (by first | (simp at hn ⊢;omega) | (simp at hn;omega)) z3 (he.ext z2) AP z1 (by omega)).of_steps z2 (zad _) z4
                  · exact z
              · cases lQ
            · cases lQ
          · rename_i sf;simp only [zbx]at lQ;obtain⟨dl',axi,rfl⟩:=lQ;obtain⟨s',z1,z2,z3⟩:=I.alf hr hs hid dN im (by simpa using sf) (show Cg rec ao e s k (fun s=>vO rec dl' e s k)=true from hk);exact ih order fuel t (by first | (simp at hn ⊢;omega) | (simp at hn;omega)) z2 he axi z1 hu
        · cases lQ
theorem ak6 (cq:P.follows .mixedOrders=true)(w0:World):ajN P w0:=by
 intro rec eQ e b cs0 todo k id ops l dl hl Ci φ s cs a w hs he hk;unfold abB at Ci;split at Ci
 · rename_i Fs;have hr:=aw2 hl;have vP:=stepR_region_draw (P:=P) (b:=b) (a:=a) (k:=todo) (cs:=cs) (w:=w) (id:=id) (ops:=ops)
   have axj:∀t,Region.schedule (P.follows .mixedOrders) ops t=Region.linearise.go .any ops ops.size t (Array.replicate ops.size false) []:=fun t=>by
    simp [Region.schedule,cq,Region.linearise]
   rw [axj]at vP
   have alw:∀j,(Array.replicate ops.size false).getD j false=false:=fun j=>by
    rw [zbb,Array.getElem?_replicate];split<;>rfl
   have I:Inv P w0 s.h.nx e.nt ops l.toArray b cs0 [] [] (Array.replicate ops.size false) φ s cs a {w with drawn:=w.drawn+1}:=
    ⟨by simp,fun j hj=>(by rw [alw]at hj;cases hj),fun j hj=>(by cases hj),fun j hj=>(by cases hj),fun j hj=>(by rw [alw]at hj;cases hj),.nil,fun j hj=>(by cases hj),
     ⟨hs.df,hs.rc,hs.heap.world rfl rfl rfl rfl⟩,hs.tm.1,fun p _=>hs.tm.2 p,fun j hj=>(by cases hj),fun j hj=>(by cases hj),zad _⟩
   refine(axf hr Fs eQ _ _ ops.size _ (zad _) I he Ci hk ?_).of_steps (Ext.refl _ _) (zad _) (.one vP);have:=List.countP_le_length (p:=fun j=> !(Array.replicate ops.size false).getD j false) (l:=List.range ops.size);simpa [Ia]using this
 · cases Ci
end
theorem ak5 {P w0}(cq:P.follows .mixedOrders=true){prog:NT lv}(xc:∀f af,prog.get f=some af→c7 P f=some af){sums:Aw}(acF:Td P w0 sums):∀(n:Nat) (t:Task),ev prog sums n t=true→fS P w0 t:=by
 intro n;have abG:=ak6 cq w0
 induction n with
 | zero=>intro t h;cases h
 | succ n ih=>
  intro t h;rw [awK]at h;cases t with
  | code ac e s k=>exact fun c hc=>ajS abG ih c ac e s k hc h
  | call f args h0 k=>exact aj0 xc ih acF h
  | HN f args rc h0 k=>exact awy xc ih h
  | round l args h0 k=>exact aj2 ih h
  | leave ds m h0 k=>exact abK ih h
theorem HR.bare (P:Program)(w:World):HR P w (fun _=>none) ⟨0,.e⟩ w:=
 ⟨fun f f' b d d' n n' _ h=>(by cases h),fun _ _=>rfl,fun _ _=>rfl,fun f h=>(by cases h),fun f b d n h=>(by cases h),⟨rfl,rfl,rfl,zad _,fun _ _=>rfl⟩⟩
def NT.Holds {α:Type}(Q:Nat→α→Prop):Nat→Nat→NT α→Prop | _,_,.e=>True | o,s,.n l v r=>(∀a,v=some a→Q o a)∧NT.Holds Q (o+s) (s+s) l∧NT.Holds Q (o+s+s) (s+s) r
theorem NT.acG {α Q}:∀{t:NT α}{o s:Nat},t.Holds Q o s→∀i a,t.get i=some a→Q (o+s*i) a
 | .e,_,_,_,i,a,h=>by cases h
 | .n l v r,o,s,⟨h0,hl,hr⟩,i,a,h=>by
  rcases NT.B4 i with rfl | ⟨j,rfl⟩ | ⟨j,rfl⟩
  · exact h0 a h
  · rw [NT.vA]at h;have:=NT.acG hl j a h
    rwa [show o+s+(s+s)*j=o+s*(2*j+1) by rw [Nat.mul_add,zaR,Nat.mul_comm 2 j,←Nat.mul_assoc,Nat.mul_two];omega]at this
  · rw [NT.vB]at h;have:=NT.acG hr j a h
    rwa [show o+s+s+(s+s)*j=o+s*(2*j+2) by rw [Nat.mul_add,zaR,Nat.mul_comm 2 j,←Nat.mul_assoc,Nat.mul_two];omega]at this
theorem NT.holds {α:Type}{Q:Nat→α→Prop}{t:NT α}(h:t.Holds Q 0 1)(i:Nat)(a:α)(hi:t.get i=some a):Q i a:=by
 have:=NT.acG h i a hi
 rwa [zav,Nat.one_mul]at this
theorem NT.no {α:Type}{Q:α→Prop}:∀a,(none:Option α)=some a→Q a:=fun a e=>by cases e
end Go.Ve
namespace Go.Ve
open Go.RowKit
open Classical
noncomputable section
abbrev Sl:=Pos→Z
def Sl.up (σ:Sl) (p:Pos) (v:Z):Sl:=fun q=>bif p.beq q then v else σ q
def Sl.jg (σ:Sl) (d:Option Pos) (v:Z):Sl:=match d with | none=>σ | some p=>σ.up p v
structure DS where
 df:List iS
 rc:Rc
def iq (σ:Sl):gp→Z | .t p=>σ p | .c v=>v
abbrev PQ:=AX→Sl→DS→AH→Prop
theorem Sl.alZ (t:PT)(p:Pos)(v:Z):(t.set p v).get=Sl.up t.get p v:=by
 funext q
 rw [PT.fR];unfold Sl.up
 by_cases e:q=p
 · subst e;rw [if_pos rfl,Pos.beq_iff.2 rfl];rfl
 · rw [if_neg e]
   have:p.beq q=false:=by
    cases h:p.beq q with
    | false=>rfl
    | true=>exact absurd (Pos.beq_iff.1 h).symm e
   rw [this];rfl
def PT.Fy (t:PT) (d:Option Pos) (v:Z):PT:=match d with | none=>t | some p=>t.set p v
theorem Sl.al0 (t:PT)(d:Option Pos)(v:Z):(t.Fy d v).get=Sl.jg t.get d v:=by
 cases d with
 | none=>rfl
 | some p=>exact Sl.alZ t p v
theorem Fz (d:Option Pos)(s:St)(v:Z)(h:AH)(k:St→Bool):mg d s v h k=k ⟨s.tm.Fy d v,s.df,s.rc,h⟩:=by rw [L3];cases d<;>rfl
theorem acU (t:PT)(o:gp):mC t o=iq t.get o:=by cases o<;>rfl
section
variable (P:Program) (w0:World)
def jM:Task→Bool:=fun t=>decide (fS P w0 t)
theorem Mi (t:Task)(h:jM P w0 t=true):fS P w0 t:=zao h
theorem rk {t}(h:fS P w0 t):jM P w0 t=true:=zac h
def WP (p:Prim) (vs:ZZE) (h:AH) (R:Z→AH→Prop):Prop:=∀k:KV,(∀v h,R v h→k v h=true)→p.ev vs h k=true
def WF (f:FuncId) (args:ZZE) (h:AH) (R:CR→AH→Prop):Prop:=fS P w0 (.call f args h fun r h=>decide (R r h))
def WR (l:Nat) (args:ZZE) (h:AH) (R:CR→AH→Prop):Prop:=fS P w0 (.round l args h fun r h=>decide (R r h))
def WL (ds:List iS) (m:Option Z) (h:AH) (K:Option Z→AH→Prop):Prop:=match ds with | []=>K m h | ds=>fS P w0 (.leave ds m h fun m h=>decide (K m h))
def WC (c:fw) (e:Env) (σ:Sl) (d:DS) (h:AH) (Q:PQ):Prop:=∀tm:PT,tm.get=σ→fS P w0 (.code c e ⟨tm,d.df,d.rc,h⟩ fun x s=>decide (Q x s.tm.get ⟨s.df,s.rc⟩ s.h))
def nQ (act:nH) (dst:Option Pos) (e:Env) (σ:Sl) (d:DS) (h:AH) (vs:List Value) (Q:PQ) (K:Sl→DS→AH→Prop):Prop:=
 match act with
 | .aU p=>WP p vs h fun v h=>K (σ.jg dst v) d h
 | .call f=>WF P w0 f vs h fun r h=>match r with
  | .ret v=>K (σ.jg dst v) d h
  | .bC v=>Q (.bC v) σ d h
 | .dyn=>(match vs with
  | .func (.func g) ⟨first⟩ ⟨dm⟩::as=>WF P w0 g (first++(as++dm)) h fun r h=>match r with
   | .ret v=>K (σ.jg dst v) d h
   | .bC v=>Q (.bC v) σ d h
  | .func (.yield l) ⟨[]⟩ ⟨[]⟩::as=>WR P w0 l as h fun r h=>match r with
   | .ret v=>K (σ.jg dst v) d h
   | .bC v=>Q (.bC v) σ d h
  | _=>False)
 | .recover=>(match e.Cc,vs with
  | none,[]=>(match d.rc with
   | .can v=>K (σ.jg dst v) ⟨d.df,.q7⟩ h
   | _=>K (σ.jg dst .nilIface) d h)
  | _,_=>False)
 | .panic=>(match vs with
  | [.iface t x]=>Q (.bC (.iface t x)) σ d h
  | _=>False)
 | .defer=>(match e.Cc,vs with
  | none,.func (.func g) ⟨first⟩ ⟨dm⟩::as=>K (σ.jg dst undef) ⟨.fn g (first++(as++dm))::d.df,d.rc⟩ h
  | _,_=>False)
def wpOp (o:cB) (e:Env) (σ:Sl) (d:DS) (h:AH) (Q:PQ) (K:Sl→DS→AH→Prop):Prop:=match o.guard with | none=>nQ P w0 o.act o.dst e σ d h (o.args.map (iq σ)) Q K | some (p,want)=>match σ p with | .bool b=>bif tz b want then nQ P w0 o.act o.dst e σ d h (o.args.map (iq σ)) Q K else K (σ.jg o.dst undef) d h | _=>K (σ.jg o.dst undef) d h
def wpOps:List cB→Env→Sl→DS→AH→PQ→Prop | [],_,σ,d,h,Q=>Q .normal σ d h | o::l,e,σ,d,h,Q=>wpOp P w0 o e σ d h Q fun σ d h=>wpOps l e σ d h Q
def CA (act:nH) (dst:Option Pos) (vs:ZZE) (σ:Sl) (h:AH):Prop:=match act,dst with | .aU p,some q=>(bif p.makes then p.fresh vs (Fi ⟨.e,[],.off,h⟩ (σ q))=true else WP p vs h fun v' _=>yC v' (σ q)=true) | _,_=>False
def FA (o:cB) (σ:Sl) (h:AH):Prop:=match o.guard with | none=>CA o.act o.dst (o.args.map (iq σ)) σ h | some (p,want)=>match σ p with | .bool b=>bif tz b want then CA o.act o.dst (o.args.map (iq σ)) σ h else True | _=>True
def o6:List nI→Env→Sl→DS→AH→PQ→Prop | [],_,σ,d,h,Q=>Q .normal σ d h | .op _ o::l,e,σ,d,h,Q=>wpOp P w0 o e σ d h Q fun σ d h=>o6 l e σ d h Q | .mz _ o::l,e,σ,d,h,Q=>FA o σ h∧o6 l e σ d h Q
def CB (c:Sl→DS→AH→Prop) (Q:PQ):PQ:=fun x σ d h=>match x with | .normal=>c σ d h | x=>Q x σ d h
def acV (id:Nat) (Q:PQ):PQ:=fun x σ d h=>match x with | .exit j=>bif Nat.beq j id then Q .normal σ d h else Q (.exit j) σ d h | x=>Q x σ d h
def gM:fw→Env→Sl→DS→AH→PQ→Prop | .skip,_,σ,d,h,Q=>Q .normal σ d h | .ops l,e,σ,d,h,Q=>wpOps P w0 l e σ d h Q | .draw l,e,σ,d,h,Q=>o6 P w0 l e σ d h Q | .seq a b,e,σ,d,h,Q=>gM a e σ d h (CB (fun σ d h=>gM b e σ d h Q) Q) | .cond c a b,e,σ,d,h,Q=>(match iq σ c with | .bool true=>gM a e σ d h Q | .bool false=>gM b e σ d h Q | _=>False) | .block id c,e,σ,d,h,Q=>gM c e σ d h (acV id Q) | .loop c,e,σ,d,h,Q=>WC P w0 (.loop c) e σ d h Q | .tr f ps a b,e,σ,d,h,Q=>WC P w0 (.tr f ps a b) e σ d h Q | .exit id,_,σ,d,h,Q=>Q (.exit id) σ d h | .ret,_,σ,d,h,Q=>Q .ret σ d h
end
section
variable {P:Program}{w0:World}
theorem lz.mono {f args h k k'}(hk:∀r h,k r h=true→k' r h=true)(H:lz P w0 f args h k):lz P w0 f args h k':=
 ⟨H.1,fun φ args' w hl hh=>(H.2 φ args' w hl hh).mono fun _ _ ⟨r,h',φ',h1,h2⟩=>⟨r,h',φ',hk _ _ h1,h2⟩⟩
theorem Ap.mono {l args h k k'}(hk:∀r h,k r h=true→k' r h=true)(H:Ap P w0 l args h k):Ap P w0 l args h k':=by
 intro φ args' l' w h1 h2 h3 h4;obtain⟨f,tmps,as,bd,h5,h6⟩:=H φ args' l' w h1 h2 h3 h4;refine⟨f,tmps,as,bd,h5,fun c cs=>?_⟩;obtain⟨v,v',h',φ',w',g1,g2⟩:=h6 c cs;exact⟨v,v',h',φ',w',hk _ _ g1,g2⟩
theorem Lc.mono {c e s k k'}(hk:∀x s,k x s=true→k' x s=true)(H:Lc P w0 c e s k):Lc P w0 c e s k':=by
 intro φ b cs0 cs a w h1 h2 it h3 todo;obtain⟨x,s',φ',ew,a',w',g1,g2⟩:=H φ b cs0 cs a w h1 h2 it h3 todo;exact⟨x,s',φ',ew,a',w',hk _ _ g1,g2⟩
theorem tx.mono {ds m h k k'}(hk:∀r h,k r h=true→k' r h=true)(H:tx P w0 ds m h k):tx P w0 ds m h k':=by
 intro φ fr cs w h1 h2 h3;obtain⟨m',h',φ',w',u,g1,g2⟩:=H φ fr cs w h1 h2 h3;exact⟨m',h',φ',w',u,hk _ _ g1,g2⟩
theorem fS.FB {c e s k k'}(hk:∀x s,k x s=true→k' x s=true)(H:fS P w0 (.code c e s k)):fS P w0 (.code c e s k'):=fun c hc=>Lc.mono hk (H c hc)
theorem WP.mono {p vs h R R'}(hk:∀v h,R v h→R' v h)(H:WP p vs h R):WP p vs h R':=fun k ij=>H k fun v h hr=>ij v h (hk v h hr)
theorem ef {p vs h h' v R}(e:∀k:KV,p.ev vs h k=k v h'):WP p vs h R↔R v h':=
 ⟨fun H=>zao ((e fun v h=>decide (R v h)).symm.trans (H (fun v h=>decide (R v h)) fun _ _ hr=>zac hr)),fun H k hk=>by rw [e];exact hk _ _ H⟩
theorem WF.mono {f args h R R'}(hk:∀r h,R r h→R' r h)(H:WF P w0 f args h R):WF P w0 f args h R':=
 lz.mono (fun r h hr=>zac (hk r h (zao hr))) H
theorem WR.mono {l args h R R'}(hk:∀r h,R r h→R' r h)(H:WR P w0 l args h R):WR P w0 l args h R':=
 Ap.mono (fun r h hr=>zac (hk r h (zao hr))) H
theorem WC.mono {c e σ d h Q Q'}(hk:∀x σ d h,Q x σ d h→Q' x σ d h)(H:WC P w0 c e σ d h Q):WC P w0 c e σ d h Q':=
 fun tm ik=>fS.FB (fun x s hx=>zac (hk x _ _ _ (zao hx))) (H tm ik)
variable (cq:P.follows .mixedOrders=true)
include cq
theorem yK {ac e s k}(h:abH (jM P w0) ac e s k=true):fS P w0 (.code ac e s k):=
 fun c hc=>ajS (ak6 cq w0) (Mi P w0) c ac e s k hc h
omit cq
theorem axD {dst s fail k r h}(H:match r with | .ret v=>k ⟨s.tm.Fy dst v,s.df,s.rc,h⟩=true | .bC v=>fail (.bC v) ⟨s.tm,s.df,s.rc,h⟩=true):vI dst s fail k r h=true:=by
 cases r with
 | ret v=>show mg dst s v h k=true;rw [Fz];exact H
 | bC v=>cases s;exact H
theorem CC (l m:ZZE)(k:ZZE→Bool):mc l m k=k (l++m):=by
 induction l generalizing k with
 | nil=>rfl
 | cons x l ih=>show mc l m (fun l'=>k (x::l'))=_;rw [ih];rfl
theorem al1 {act:nH}{dst:Option Pos}{e:Env}{tm:PT}{d:DS}{h:AH}{vs:List Value}{Q:PQ}{K:Sl→DS→AH→Prop}{k:St→Bool}
 (hk:∀tm d h,K tm.get d h→k ⟨tm,d.df,d.rc,h⟩=true) (H:nQ P w0 act dst e tm.get d h vs Q K):
 HQ (jM P w0) act dst e ⟨tm,d.df,d.rc,h⟩ (fun x s=>decide (Q x s.tm.get ⟨s.df,s.rc⟩ s.h)) k vs=true:=by
 have key:∀(t:PT) (d:DS) (h:AH) (v:Value),K (Sl.jg t.get dst v) d h→k ⟨t.Fy dst v,d.df,d.rc,h⟩=true:=fun t d h v hK=>
  hk (t.Fy dst v) d h (by rw [Sl.al0];exact hK)
 have ret:∀r h',(match r with | .ret v=>K (Sl.jg tm.get dst v) d h' | .bC v=>Q (.bC v) tm.get d h':Prop)→vI dst ⟨tm,d.df,d.rc,h⟩ (fun x s=>decide (Q x s.tm.get ⟨s.df,s.rc⟩ s.h)) k r h'=true:=fun r h' hr=>by
  refine axD ?_;cases r with
  | ret v=>exact key tm d h' v hr
  | bC v=>exact decide_eq_true hr
 cases act with
 | aU p=>
  show p.ev vs h (fun v h'=>mg dst ⟨tm,d.df,d.rc,h⟩ v h' k)=true;exact H _ fun v h' hK=>by rw [Fz];exact key tm d h' v hK
 | call f=>
  show jM P w0 (.call f vs h (vI dst ⟨tm,d.df,d.rc,h⟩ _ k))=true;exact rk P w0 (lz.mono (fun r h' hr=>ret r h' (of_decide_eq_true hr)) H)
 | dyn=>
  show aby (jM P w0) dst e ⟨tm,d.df,d.rc,h⟩ _ k vs=true;cases vs with
  | nil=>exact H.elim
  | cons f as=>
   simp only [nQ]at H;split at H
   · rename_i g first dm yo heq
     cases heq;show mc _ _ _=true;rw [CC,CC];exact rk P w0 (lz.mono (fun r h' hr=>ret r h' (of_decide_eq_true hr)) H)
   · rename_i l yo heq;cases heq;exact rk P w0 (Ap.mono (fun r h' hr=>ret r h' (of_decide_eq_true hr)) H)
   · exact H.elim
 | recover=>
  show Lj dst e ⟨tm,d.df,d.rc,h⟩ k vs=true;simp only [nQ]at H;unfold Lj;split at H
  · rename_i he;simp only [he];split at H
    · rename_i v hv;simp only [hv];rw [Fz];exact key tm ⟨d.df,.q7⟩ h v H
    · rename_i hv;cases hr:d.rc with
      | can v=>exact absurd hr (hv v)
      | off=>simp only [Fz];have:=key tm d h .nilIface H;rw [hr]at this;exact this
      | q7=>simp only [Fz];have:=key tm d h .nilIface H;rw [hr]at this;exact this
  · exact H.elim
 | panic=>
  show SS ⟨tm,d.df,d.rc,h⟩ (fun x s=>decide (Q x s.tm.get ⟨s.df,s.rc⟩ s.h)) vs=true;simp only [nQ]at H;split at H
  · exact decide_eq_true H
  · exact H.elim
 | defer=>
  show Ll dst e ⟨tm,d.df,d.rc,h⟩ k vs=true;simp only [nQ]at H;unfold Ll;split at H
  · rename_i he;simp only [he];show mc _ _ _=true;rw [CC,CC,Fz];exact key tm ⟨_::d.df,d.rc⟩ h undef H
  · exact H.elim
end
section
variable {P:Program}{w0:World}
theorem al2 (t:PT)(l:List gp):l.map (mC t)=l.map (iq t.get):=List.map_congr_left fun o _=>acU t o
theorem guard_of {g t yes no}(H:match g with
 | none=>yes=true
 | some (p,want)=>match t.get p with
  | .bool b=>(bif tz b want then yes else no)=true
  | _=>no=true):vM g t yes no=true:=by
 cases g with
 | none=>exact H
 | some pw=>
  obtain⟨p,want⟩:=pw;show PT.fY p t (E5 want yes no)=true;rw [PT.oX];unfold E5
  revert H
  simp only [];generalize t.get p=v;intro H;split
  · exact H
  · rename_i eM
    revert H
    split
    · rename_i b;exact absurd rfl (eM b)
    · exact fun H=>H
theorem al3 {o e tm d h Q K k}
 (hk:∀tm d h,K tm.get d h→k ⟨tm,d.df,d.rc,h⟩=true) (H:wpOp P w0 o e tm.get d h Q K):
 Cg (jM P w0) o e ⟨tm,d.df,d.rc,h⟩ (fun x s=>decide (Q x s.tm.get ⟨s.df,s.rc⟩ s.h)) k=true:=by
 obtain⟨dst,act,args,g⟩:=o;show vM g tm (vL args tm (HQ (jM P w0) act dst e ⟨tm,d.df,d.rc,h⟩ _ k)) (mg dst ⟨tm,d.df,d.rc,h⟩ undef h k)=true;rw [H5,Fz,al2];have AN:K (Sl.jg tm.get dst undef) d h→k ⟨tm.Fy dst undef,d.df,d.rc,h⟩=true:=fun hK=>hk (tm.Fy dst undef) d h (by rw [Sl.al0];exact hK)
 refine guard_of ?_;unfold wpOp at H;cases g with
 | none=>exact al1 hk H
 | some pw=>
  obtain⟨p,want⟩:=pw
  revert H
  simp only [];generalize tm.get p=v;intro H;cases v<;>first | exact AN H | skip
  rename_i b;simp only at H ⊢;cases hb:tz b want with
  | true=>rw [hb]at H;exact al1 hk H
  | false=>rw [hb]at H;exact AN H
theorem axE {e Q}:∀{l:List cB}{tm:PT}{d:DS}{h:AH},wpOps P w0 l e tm.get d h Q→Lp (jM P w0) l e ⟨tm,d.df,d.rc,h⟩ (fun x s=>decide (Q x s.tm.get ⟨s.df,s.rc⟩ s.h))=true:=by
 intro l
 induction l with
 | nil=>intro tm d h H;exact zac H
 | cons o l ih=>intro tm d h H;exact al3 (k:=fun s=>Lp (jM P w0) l e s _) (fun tm d h hK=>ih hK) H
theorem axF {o:cB}{tm:PT}{d:DS}{h:AH}(H:FA o tm.get h):H0 o ⟨tm,d.df,d.rc,h⟩=true:=by
 obtain⟨dst,act,args,g⟩:=o;show vM g tm (vL args tm fun vs=>nH.casesOn (motive:=fun _=>Bool) act (LV dst ⟨tm,d.df,d.rc,h⟩ vs) tC false false false false) true=true;rw [H5,al2];refine guard_of ?_
 have body:CA act dst (args.map (iq tm.get)) tm.get h→nH.casesOn (motive:=fun _=>Bool) act (LV dst ⟨tm,d.df,d.rc,h⟩ (args.map (iq tm.get))) tC false false false false=true:=by
  intro H;unfold CA at H;cases act with
  | aU p=>
   cases dst with
   | none=>exact H.elim
   | some q=>
    show PT.fY q tm (fun v=>bif p.makes then p.fresh (args.map (iq tm.get)) (Fi ⟨tm,d.df,d.rc,h⟩ v)else p.ev (args.map (iq tm.get)) h (LU v))=true;rw [PT.oX];simp only at H;cases hm:p.makes with
    | true=>rw [hm]at H;exact H
    | false=>rw [hm]at H;exact H _ fun v h hv=>hv
  | _=>exact H.elim
 unfold FA at H;cases g with
 | none=>exact body H
 | some pw=>
  obtain⟨p,want⟩:=pw
  revert H
  simp only [];generalize tm.get p=v;intro H;cases v<;>first | exact trivial | skip
  rename_i b;simp only at H ⊢;cases hb:tz b want with
  | true=>rw [hb]at H;exact body H
  | false=>rfl
theorem axG {e:Env}{Q:PQ}:∀{l:List nI}{tm:PT}{d:DS}{h:AH},o6 P w0 l e tm.get d h Q→vO (jM P w0) l e ⟨tm,d.df,d.rc,h⟩ (fun x s=>decide (Q x s.tm.get ⟨s.df,s.rc⟩ s.h))=true:=by
 intro l
 induction l with
 | nil=>intro tm d h H;exact zac H
 | cons o l ih=>
  intro tm d h H;cases o with
  | op i o=>exact al3 (k:=fun s=>vO (jM P w0) l e s _) (fun tm d h hK=>ih hK) H
  | mz i o=>
   exact(iff_eq (H0 o ⟨tm,d.df,d.rc,h⟩) (vO (jM P w0) l e ⟨tm,d.df,d.rc,h⟩ fun x s=>decide (Q x s.tm.get ⟨s.df,s.rc⟩ s.h))).2 ⟨axF H.1,ih H.2⟩
theorem TZ (cq:P.follows .mixedOrders=true):∀(c:fw){e:Env}{σ:Sl}{d:DS}{h:AH}{Q:PQ},gM P w0 c e σ d h Q→WC P w0 c e σ d h Q:=by
 intro c
 induction c with
 | skip=>intro e σ d h Q H tm ik;subst ik;exact yK cq (zac H)
 | ops l=>intro e σ d h Q H tm ik;subst ik;exact yK cq (axE H)
 | draw l=>intro e σ d h Q H tm ik;subst ik;exact yK cq (axG H)
 | seq a b o7 om=>
  intro e σ d h Q H tm ik;subst ik;refine yK cq (rk P w0 (fS.FB (fun x s hx=>?_) (o7 H tm rfl)));have jT:=zao hx;cases x with
  | normal=>exact rk P w0 (om jT s.tm rfl)
  | exit id=>exact zac jT
  | ret=>exact zac jT
  | bC v=>exact zac jT
 | cond c a b o7 om=>
  intro e σ d h Q H tm ik;subst ik;refine yK cq ?_;show As c tm (fun v=>Az v fun t=>Bool.casesOn (motive:=fun _=>Bool) t (jM P w0 (.code b e _ _)) (jM P w0 (.code a e _ _)))=true;rw [acE,acU];simp only [gM]at H
  revert H
  cases iq tm.get c<;>intro H<;>first | exact H.elim | skip
  rename_i t;cases t with
  | true=>exact rk P w0 (o7 H tm rfl)
  | false=>exact rk P w0 (om H tm rfl)
 | block id c ih=>
  intro e σ d h Q H tm ik;subst ik;refine yK cq (rk P w0 (fS.FB (fun x s hx=>?_) (ih H tm rfl)));have jT:=zao hx;cases x with
  | normal=>exact zac jT
  | exit j=>
   show(bif Nat.beq j id then _ else _)=true;have Mj:bif Nat.beq j id then Q .normal s.tm.get ⟨s.df,s.rc⟩ s.h else Q (.exit j) s.tm.get ⟨s.df,s.rc⟩ s.h:=jT
   cases hj:Nat.beq j id with
   | true=>rw [hj]at Mj;exact zac Mj
   | false=>rw [hj]at Mj;exact zac Mj
  | ret=>exact zac jT
  | bC v=>exact zac jT
 | loop c ih=>intro e σ d h Q H;exact H
 | tr f ps a b o7 om=>intro e σ d h Q H;exact H
 | exit id=>intro e σ d h Q H tm ik;subst ik;exact yK cq (zac H)
 | ret=>intro e σ d h Q H tm ik;subst ik;exact yK cq (zac H)
theorem acW (cq:P.follows .mixedOrders=true){c:fw}{e:Env}{σ:Sl}{d:DS}{h:AH}{Q:PQ}(H:gM P w0 c e σ d h (CB (fun σ d h=>WC P w0 (.loop c) e σ d h Q) Q)):WC P w0 (.loop c) e σ d h Q:=by
 intro tm ik;subst ik;refine yK cq (rk P w0 (fS.FB (fun x s hx=>?_) (TZ cq c H tm rfl)));have jT:=zao hx;cases x with
 | normal=>exact rk P w0 ((show WC P w0 (.loop c) e s.tm.get ⟨s.df,s.rc⟩ s.h Q from jT) s.tm rfl)
 | exit id=>exact zac jT
 | ret=>exact zac jT
 | bC v=>exact zac jT
theorem al4 {act dst e σ d h vs Q Q' K K'}(hQ:∀x σ d h,Q x σ d h→Q' x σ d h)(hK:∀σ d h,K σ d h→K' σ d h)
 (H:nQ P w0 act dst e σ d h vs Q K):nQ P w0 act dst e σ d h vs Q' K':=by
 have r:∀(r:CR) (h:AH),(match r with | .ret v=>K (σ.jg dst v) d h | .bC v=>Q (.bC v) σ d h:Prop)→(match r with | .ret v=>K' (σ.jg dst v) d h | .bC v=>Q' (.bC v) σ d h:Prop):=fun r h hr=>by
  cases r with
  | ret v=>exact hK _ _ _ hr
  | bC v=>exact hQ _ _ _ _ hr
 cases act with
 | aU p=>exact WP.mono (fun v h hv=>hK _ _ _ hv) H
 | call f=>exact WF.mono r H
 | dyn=>
  simp only [nQ]at H ⊢;split at H
  · exact WF.mono r H
  · exact WR.mono r H
  · exact H.elim
 | recover=>
  simp only [nQ]at H ⊢;split at H
  · split at H
    · exact hK _ _ _ H
    · exact hK _ _ _ H
  · exact H.elim
 | panic=>
  simp only [nQ]at H ⊢;split at H
  · exact hQ _ _ _ _ H
  · exact H.elim
 | defer=>
  simp only [nQ]at H ⊢;split at H
  · exact hK _ _ _ H
  · exact H.elim
theorem wpOp_mono {o e σ d h Q Q' K K'}(hQ:∀x σ d h,Q x σ d h→Q' x σ d h)(hK:∀σ d h,K σ d h→K' σ d h)
 (H:wpOp P w0 o e σ d h Q K):wpOp P w0 o e σ d h Q' K':=by
 obtain⟨dst,act,args,g⟩:=o;unfold wpOp at H ⊢;cases g with
 | none=>exact al4 hQ hK H
 | some pw=>
  obtain⟨p,want⟩:=pw
  revert H
  simp only [];generalize σ p=v;intro H;cases v<;>first | exact hK _ _ _ H | skip
  rename_i b;simp only at H ⊢
  revert H
  cases tz b want with
  | true=>exact fun H=>al4 hQ hK H
  | false=>exact fun H=>hK _ _ _ H
theorem axH {e Q Q'}(hQ:∀x σ d h,Q x σ d h→Q' x σ d h):∀{l:List cB}{σ:Sl}{d:DS}{h:AH},wpOps P w0 l e σ d h Q→wpOps P w0 l e σ d h Q':=by
 intro l
 induction l with
 | nil=>intro σ d h H;exact hQ _ _ _ _ H
 | cons o l ih=>intro σ d h H;exact wpOp_mono hQ (fun _ _ _=>ih) H
theorem axI {e Q Q'}(hQ:∀x σ d h,Q x σ d h→Q' x σ d h):∀{l:List nI}{σ:Sl}{d:DS}{h:AH},o6 P w0 l e σ d h Q→o6 P w0 l e σ d h Q':=by
 intro l
 induction l with
 | nil=>intro σ d h H;exact hQ _ _ _ _ H
 | cons o l ih=>
  intro σ d h H;cases o with
  | op i o=>exact wpOp_mono hQ (fun _ _ _=>ih) H
  | mz i o=>exact⟨H.1,ih H.2⟩
theorem T0:∀(c:fw){e:Env}{σ:Sl}{d:DS}{h:AH}{Q Q':PQ},(∀x σ d h,Q x σ d h→Q' x σ d h)→gM P w0 c e σ d h Q→gM P w0 c e σ d h Q':=by
 intro c
 induction c with
 | skip=>intro e σ d h Q Q' hQ H;exact hQ _ _ _ _ H
 | ops l=>intro e σ d h Q Q' hQ H;exact axH hQ H
 | draw l=>intro e σ d h Q Q' hQ H;exact axI hQ H
 | seq a b o7 om=>
  intro e σ d h Q Q' hQ H;refine o7 (fun x σ d h hx=>?_) H;cases x with
  | normal=>exact om hQ hx
  | _=>exact hQ _ _ _ _ hx
 | cond c a b o7 om=>
  intro e σ d h Q Q' hQ H;simp only [gM]at H ⊢
  revert H
  cases iq σ c<;>intro H<;>first | exact H.elim | skip
  rename_i t
  revert H
  cases t with
  | true=>exact fun H=>o7 hQ H
  | false=>exact fun H=>om hQ H
 | block id c ih=>
  intro e σ d h Q Q' hQ H;refine ih (fun x σ d h hx=>?_) H;cases x with
  | exit j=>
   have jT:bif Nat.beq j id then Q .normal σ d h else Q (.exit j) σ d h:=hx
   show bif Nat.beq j id then Q' .normal σ d h else Q' (.exit j) σ d h
   cases hj:Nat.beq j id with
   | true=>rw [hj]at jT;exact hQ _ _ _ _ jT
   | false=>rw [hj]at jT;exact hQ _ _ _ _ jT
  | _=>exact hQ _ _ _ _ hx
 | loop c ih=>intro e σ d h Q Q' hQ H;exact WC.mono hQ H
 | tr f ps a b o7 om=>intro e σ d h Q Q' hQ H;exact WC.mono hQ H
 | exit id=>intro e σ d h Q Q' hQ H;exact hQ _ _ _ _ H
 | ret=>intro e σ d h Q Q' hQ H;exact hQ _ _ _ _ H
def T1 (vs:ZZE):Sl:=fun p=>vs.getD p.un undef
def sj:List qV→Sl→AH→(ZZE→Prop)→Prop | [],_,_,K=>K [] | .tmp p::rs,σ,h,K=>sj rs σ h fun vs=>K (σ p::vs) | .cell p none::rs,σ,h,K=>WP .aB [σ p] h fun v _=>sj rs σ h fun vs=>K (v::vs) | .cell p (some n)::rs,σ,h,K=>WP (.bZ n) [σ p] h fun v _=>sj rs σ h fun vs=>K (v::vs)
def FC:ZZE→Z | [v]=>v | vs=>.tuple ⟨vs⟩
def Mk (P:Program) (w0:World) (rs:List qV) (R:CR→AH→Prop):PQ:=fun x σ d h=>match x with
 | .bC v=>WL P w0 d.df (some v) h fun m h=>match m with
  | none=>rs=[]∧R (.ret (.tuple ⟨[]⟩)) h
  | some v=>R (.bC v) h
 | .exit _=>False
 | _=>WL P w0 d.df none h fun m h=>match m with
  | none=>sj rs σ h fun vs=>R (.ret (FC vs)) h
  | some v=>R (.bC v) h
theorem axJ {tm h}:∀{rs:List qV}{K:ZZE→Prop}{k:ZZE→Bool},(∀vs,K vs→k vs=true)→sj rs tm.get h K→qo rs tm h k=true:=by
 intro rs
 induction rs with
 | nil=>intro K k hk H;exact hk _ H
 | cons r rs ih=>
  intro K k hk H;cases r with
  | tmp p=>
   show PT.fY p tm (fun v=>qo rs tm h fun vs=>k (v::vs))=true;rw [PT.oX];exact ih (fun vs hv=>hk _ hv) H
  | cell p n=>
   cases n with
   | none=>
    show PT.fY p tm (fun v=>mB v fun b o=>yw h b o fun x=>qo rs tm h fun vs=>k (x::vs))=true;rw [PT.oX];exact H (fun v _=>qo rs tm h fun vs=>k (v::vs)) fun v h' hv=>ih (fun vs hv=>hk _ hv) hv
   | some n=>
    show PT.fY p tm (fun v=>mB v fun b o=>pL h b o n fun l=>qo rs tm h fun vs=>k (.agg ⟨l⟩::vs))=true;rw [PT.oX];exact H (fun v _=>qo rs tm h fun vs=>k (v::vs)) fun v h' hv=>ih (fun vs hv=>hk _ hv) hv
theorem axK (vs:ZZE)(k:Z→Bool):Lx vs k=k (FC vs):=by
 cases vs with
 | nil=>rfl
 | cons a l=>cases l<;>rfl
theorem acX {ds m h K k}(hk:∀m h,K m h→k m h=true)(H:WL P w0 ds m h K):jM P w0 (.leave ds m h k)=true:=by
 cases ds with
 | nil=>exact rk P w0 (abK (rec:=jM P w0) (Mi P w0) (show abL (jM P w0) [] m h k=true from hk _ _ H))
 | cons a l=>exact rk P w0 (tx.mono (fun r h hr=>hk _ _ (zao hr)) H)
theorem axL {rs:List qV}{R:CR→AH→Prop}{x:AX}{s:St}(H:Mk P w0 rs R x s.tm.get ⟨s.df,s.rc⟩ s.h):Lz (jM P w0) rs (fun r h=>decide (R r h)) x s=true:=by
 have hn:WL P w0 s.df none s.h (fun m h=>match m with | none=>sj rs s.tm.get h fun vs=>R (.ret (FC vs)) h | some v=>R (.bC v) h)→jM P w0 (.leave s.df none s.h (LA rs s.tm fun r h=>decide (R r h)))=true:=fun H=>
  acX (fun m h hm=>by
   cases m with
   | none=>
    show qo rs s.tm h (fun vs=>Lx vs fun v=>decide (R (.ret v) h))=true;exact axJ (fun vs hv=>by rw [axK];exact zac hv) hm
   | some v=>exact zac hm) H
 cases x with
 | normal=>exact hn H
 | ret=>exact hn H
 | exit id=>exact H.elim
 | bC v=>
  have H':WL P w0 s.df (some v) s.h (fun m h=>match m with | none=>rs=[]∧R (.ret (.tuple ⟨[]⟩)) h | some v=>R (.bC v) h):=H;refine acX (fun m h hm=>?_) H';cases m with
  | none=>
   obtain⟨h1,h2⟩:=hm;subst h1;exact zac h2
  | some v=>exact zac hm
theorem axM {args:ZZE}{tm:PT}(ik:∀p:Pos,tm.get p=if 0≤p.un∧p.un<0+args.length then args.getD (p.un-0) undef else PT.e.get p):tm.get=T1 args:=by
 funext p
 rw [ik p];unfold T1;split
 · rfl
 · rw [PT.aiZ];have:¬p.un<args.length:=by omega
   simp [List.getD,this]
theorem Ky (cq:P.follows .mixedOrders=true){f:FuncId}{af:lv}(hf:c7 P f=some af){args:List Value}{h:AH}{R:CR→AH→Prop}
 (H:gM P w0 af.code ⟨f,af.ntmps,none⟩ (T1 args) ⟨[],.off⟩ h (Mk P w0 af.results R)):WF P w0 f args h R:=by
 refine ajX (Mi P w0) hf ?_;obtain⟨nt,rs,code,dt⟩:=af;show Au 0 args .e (fun tm=>jM P w0 (.code code ⟨f,nt,none⟩ ⟨tm,[],.off,h⟩ (Lz (jM P w0) rs _)))=true
 have lay:∀(vs:List Value) (i:Nat) (t:PT) (k:PT→Bool),(∀t':PT,(∀p:Pos,t'.get p=if i≤p.un∧p.un<i+vs.length then vs.getD (p.un-i) undef else t.get p)→k t'=true)→Au i vs t k=true:=by
  intro vs
  induction vs with
  | nil=>intro i t k hk;exact hk t fun p=>by rw [if_neg (by simp)]
  | cons v vs ih=>
   intro i t k hk;show PT.lh (Pos.of i) t v (fun t=>Au (i+1) vs t k)=true;rw [PT.rZ];refine ih _ _ _ fun t' Cm=>hk t' fun p=>?_;rw [Cm,PT.fR]
   by_cases h3:p.un=i
   · have hp:p=Pos.of i:=Pos.B2 (by rw [Pos.qU];exact h3);rw [if_neg (by omega),if_pos hp,if_pos (by simp;omega)];simp [h3]
   · have hp:¬p=Pos.of i:=fun e=>h3 (by rw [e,Pos.qU])
     by_cases h4:i+1≤p.un∧p.un<i+1+vs.length
     · rw [if_pos h4,if_pos (by simp;omega)];have:p.un-i=(p.un-(i+1))+1:=by omega
       rw [this];simp
     · rw [if_neg h4,if_neg hp,if_neg (by simp;omega)]
 refine lay args 0 .e _ fun tm ik=>?_;exact rk P w0 (fS.FB (fun x s hx=>axL (of_decide_eq_true hx)) (TZ cq code H tm (axM ik)))
def AH.Ok (h:AH):Prop:=∀f,h.nx≤f→h.ob.get f=none
end
end
end Go.Ve
namespace Go.Ve
open Go.RowKit
noncomputable section
theorem jh (k:Bool):iff true k=k:=rfl
theorem uY (k:IntKind):jE k k=true:=by cases k<;>rfl
theorem axN (a b:Nat):Nat.beq a b=decide (a=b):=by
 by_cases h:a=b
 · subst h;simp
 · rw [jt h];simp [h]
theorem Ih (a b:Int):qp a b=decide (a=b):=by
 rw [Bool.eq_iff_iff,decide_eq_true_iff];cases a<;>cases b<;>simp only [qp,axN,decide_eq_true_iff]
 · exact Int.ofNat_inj.symm
 · constructor
   · intro h;cases h
   · intro h;cases h
 · constructor
   · intro h;cases h
   · intro h;cases h
 · constructor
   · intro h;rw [h]
   · intro h;cases h;rfl
theorem T2 (a b:Int):tB a b=decide (a<b):=by
 rw [Bool.eq_iff_iff,decide_eq_true_iff];cases a<;>cases b<;>simp only [tB]
 · rename_i a b;show Nat.ble (a+1) b=true↔_;rw [zaD];show a+1≤b↔(a:Int)<(b:Int);omega
 · rename_i a b;constructor
   · intro h;cases h
   · intro h;have h':(a:Int)<Int.negSucc b:=h;omega
 · rename_i a b;constructor
   · intro _;show Int.negSucc a<(b:Int);omega
   · intro _;first | trivial | rfl
 · rename_i a b;show Nat.ble (b+1) a=true↔Int.negSucc a<Int.negSucc b;rw [zaD];omega
theorem jv {n}(h1: -9223372036854775808≤n)(h2:n≤9223372036854775807):bN .i64 n=n:=by
 cases n with
 | ofNat a=>
  show(bif Nat.ble a Ax then(Int.ofNat a)else _)=_;have:Nat.ble a Ax=true:=by rw [zaD];have:((a:Nat):Int)≤9223372036854775807:=h2;show a≤9223372036854775807;omega
  rw [this];rfl
 | negSucc a=>
  show(bif Nat.ble a Ax then(Int.negSucc a)else _)=_;have:Nat.ble a Ax=true:=by rw [zaD];show a≤9223372036854775807;omega
  rw [this];rfl
theorem T3:∀(a b:List UInt8),nN a b=decide (a=b)
 | [],[]=>by simp [nN]
 | [],b::m=>by simp [nN]
 | a::l,[]=>by simp [nN]
 | a::l,b::m=>by
  simp only [nN];rw [T3 l m]
  by_cases h:a=b
  · subst h;simp
  · have:a.toNat≠b.toNat:=fun e=>h (UInt8.toNat_inj.1 e)
    rw [jt this];simp [h]
def AH.rd (h:AH) (b o:Nat):Option Z:=match h.ob.get b with | some (.cells lo hi _ _ c)=>if lo≤o∧o+1≤hi then c.get o else none | _=>none
def AH.can (h:AH) (b o n:Nat):Prop:=∃lo hi ty c,h.ob.get b=some (.cells lo hi ty true c)∧lo≤o∧o+n≤hi
def nR:NT Z→Nat→ZZE→NT Z | c,_,[]=>c | c,i,v::l=>nR (c.set i (some v)) (i+1) l
def AH.wr (h:AH) (b o:Nat) (l:ZZE):AH:=match h.ob.get b with | some (.cells lo hi ty rw c)=>⟨h.nx,h.ob.set b (some (.cells lo hi ty rw (nR c o l)))⟩ | _=>h
def AH.new (h:AH) (ty:TypeId) (l:ZZE):AH:=⟨h.nx+1,h.ob.set h.nx (some (.cells 0 l.length ty true (nR .e 0 l)))⟩
theorem T4:∀(l:ZZE) (c:NT Z) (i:Nat) (k:NT Z→Bool),Fc c i l k=k (nR c i l)
 | [],c,i,k=>rfl
 | v::l,c,i,k=>by
  show NT.lh (wW i) c i (some v) (fun c'=>fN (Nat.succ i) fun i'=>Fc c' i' l k)=_;rw [NT.rZ,dG,T4 l];rfl
theorem FD:∀(l:ZZE) (c:NT Z) (i j:Nat),(nR c i l).get j=if i≤j∧j<i+l.length then l[j-i]? else c.get j
 | [],c,i,j=>by
  rw [if_neg (fun h=>by have:=h.2;simp at this;omega)];rfl
 | v::l,c,i,j=>by
  show(nR (c.set i (some v)) (i+1) l).get j=_;rw [FD l,NT.fR]
  by_cases h:j=i
  · subst h;rw [if_neg (by omega),if_pos rfl,if_pos (by simp)];simp
  · rw [if_neg h]
    by_cases h2:i+1≤j∧j<i+1+l.length
    · rw [if_pos h2,if_pos (by simp;omega)];have:j-i=(j-(i+1))+1:=by omega
      rw [this];simp
    · rw [if_neg h2,if_neg (by simp;omega)]
theorem AH.T5 (h:AH)(ty:TypeId)(l:ZZE)(b o:Nat):(h.new ty l).rd b o=if b=h.nx then l[o]? else h.rd b o:=by
 unfold AH.rd AH.new;simp only [NT.fR]
 by_cases e:b=h.nx
 · subst e;simp only [if_true];rw [FD]
   by_cases ho:o<l.length
   · rw [if_pos (by omega),if_pos (by omega)];rfl
   · rw [if_neg (by omega)];simp [Nat.le_of_not_lt ho]
 · simp only [if_neg e]
theorem AH.acY (h:AH)(ty:TypeId)(l:ZZE):(h.new ty l).nx=h.nx+1:=rfl
theorem AH.AR {h:AH}(H:h.Ok)(ty:TypeId)(l:ZZE):(h.new ty l).Ok:=fun f hf=>by
 have:h.nx+1≤f:=hf;show(h.ob.set h.nx _).get f=none;rw [NT.fR,if_neg (by omega)];exact H f (by omega)
theorem AH.acZ (h:AH)(ty:TypeId)(l:ZZE){o n:Nat}(hn:o+n≤l.length):(h.new ty l).can h.nx o n:=
 ⟨0,l.length,ty,_,by show(h.ob.set h.nx _).get h.nx=_;rw [NT.fR,if_pos rfl],zaz _,hn⟩
theorem AH.axO {h:AH}(ty:TypeId)(l:ZZE){b o n:Nat}(H:h.can b o n)(hb:b≠h.nx):(h.new ty l).can b o n:=by
 obtain⟨lo,hi,dY,c,h1,h2,h3⟩:=H;exact⟨lo,hi,dY,c,by show(h.ob.set h.nx _).get b=_;rw [NT.fR,if_neg hb];exact h1,h2,h3⟩
theorem AH.rl (h:AH)(b o:Nat)(l:ZZE):(h.wr b o l).nx=h.nx:=by unfold AH.wr;split<;>rfl
theorem AH.CD (h:AH){b o:Nat}{l:ZZE}{b':Nat}(hb:b'≠b):(h.wr b o l).ob.get b'=h.ob.get b':=by
 unfold AH.wr;split
 · simp only [NT.fR,if_neg hb]
 · rfl
theorem AH.CE {h:AH}{b o n:Nat}{l:ZZE}(H:h.can b o n)(hl:l.length≤n)(b' o':Nat):(h.wr b o l).rd b' o'=if b'=b∧o≤o'∧o'<o+l.length then l[o'-o]? else h.rd b' o':=by
 obtain⟨lo,hi,ty,c,h1,h2,h3⟩:=H
 by_cases e:b'=b
 · subst e;unfold AH.rd AH.wr;simp only [h1,NT.fR,if_true];rw [FD]
   by_cases ho:o≤o'∧o'<o+l.length
   · simp only [ho,and_self,if_true];rw [if_pos (by omega)]
   · simp only [true_and,if_neg ho]
 · rw [if_neg (fun h=>e h.1)];unfold AH.rd;rw [AH.CD h e]
theorem AH.T6 {h:AH}{b o:Nat}{l:ZZE}{b' o' n':Nat}(H:h.can b' o' n'):(h.wr b o l).can b' o' n':=by
 by_cases e:b'=b
 · subst e;obtain⟨lo,hi,ty,c,h1,h2,h3⟩:=H;unfold AH.can AH.wr;simp only [h1,NT.fR,if_true];exact⟨lo,hi,ty,_,rfl,h2,h3⟩
 · obtain⟨lo,hi,ty,c,h1,h2,h3⟩:=H;exact⟨lo,hi,ty,c,by rw [AH.CD h e];exact h1,h2,h3⟩
theorem AH.AS {h:AH}(H:h.Ok)(b o:Nat)(l:ZZE):(h.wr b o l).Ok:=fun f hf=>by
 rw [AH.rl]at hf;unfold AH.wr;split
 · rename_i lo hi ty rw c heq;show(h.ob.set b _).get f=none;rw [NT.fR]
   by_cases e:f=b
   · subst e;rw [H f hf]at heq;cases heq
   · rw [if_neg e];exact H f hf
 · exact H f hf
theorem AH.lt_of_get {h:AH}(H:h.Ok){b:Nat}{o:AO}(hr:h.ob.get b=some o):b<h.nx:=by
 rcases Nat.lt_or_ge b h.nx with h1 | h1
 · exact h1
 · rw [H b h1]at hr;cases hr
theorem AH.axP {h:AH}{b o:Nat}{v:Z}(hr:h.rd b o=some v):∃a,h.ob.get b=some a:=by
 unfold AH.rd at hr;split at hr
 · rename_i heq;exact⟨_,heq⟩
 · cases hr
theorem AH.axQ {h:AH}(H:h.Ok){b o:Nat}{v:Z}(hr:h.rd b o=some v):b<h.nx:=by
 obtain⟨a,ha⟩:=AH.axP hr;exact AH.lt_of_get H ha
structure eK (h h':AH):Prop where
 nx:h.nx≤h'.nx
 get:∀b,b<h.nx→h'.ob.get b=h.ob.get b
theorem eK.refl (h:AH):eK h h:=⟨zad _,fun _ _=>rfl⟩
theorem eK.trans {a b c}(h1:eK a b)(h2:eK b c):eK a c:=⟨zay h1.nx h2.nx,fun f hf=>(h2.get f (za1 hf h1.nx)).trans (h1.get f hf)⟩
theorem eK.new (h:AH)(ty:TypeId)(l:ZZE):eK h (h.new ty l):=⟨za5 _,fun f hf=>by show(h.ob.set h.nx _).get f=_;rw [NT.fR,if_neg (by omega)]⟩
theorem eK.wr {a h}(H:eK a h){b:Nat}(hb:a.nx≤b)(o:Nat)(l:ZZE):eK a (h.wr b o l):=
 ⟨by rw [AH.rl];exact H.nx,fun f hf=>by rw [AH.CD h (by omega)];exact H.get f hf⟩
theorem eK.rd {h h':AH}(H:eK h h')(jd:h.Ok){b o:Nat}{v:Z}(hr:h.rd b o=some v):h'.rd b o=some v:=by
 have:=AH.axQ jd hr;unfold AH.rd at hr ⊢;rw [H.get b this];exact hr
def AH.bH (h:AH) (b o:Nat) (l:ZZE):Prop:=∀i v,l[i]? =some v→h.rd b (o+i)=some v
theorem AH.T7 (h:AH)(b o:Nat):h.bH b o []:=fun i v hv=>by simp at hv
theorem AH.al5 {h:AH}{b o:Nat}{v:Z}{l:ZZE}:h.bH b o (v::l)↔h.rd b o=some v∧h.bH b (o+1) l:=by
 constructor
 · intro H;exact⟨H 0 v rfl,fun i u hu=>by have:=H (i+1) u (by simpa using hu);rwa [show o+(i+1)=o+1+i by omega]at this⟩
 · rintro⟨h1,h2⟩ i u hu;cases i with
   | zero=>simp at hu;subst hu;exact h1
   | succ i=>have:=h2 i u (by simpa using hu);rwa [show o+1+i=o+(i+1) by omega]at this
theorem eK.bH {h h'}(H:eK h h')(jd:h.Ok){b o:Nat}{l:ZZE}(hr:h.bH b o l):h'.bH b o l:=fun i v hv=>H.rd jd (hr i v hv)
theorem AH.T9 (h:AH)(ty:TypeId)(l:ZZE):(h.new ty l).bH h.nx 0 l:=fun i v hv=>by rw [AH.T5,if_pos rfl,zav];exact hv
theorem ac0 {α:Type}{t:NT α}:∀{i:Nat}{k:α→Bool}{x:α},t.get i=some x→t.fY i k=k x:=by
 induction t with
 | e=>intro i k x h;cases h
 | n l v r ihl ihr=>
  intro i k x hx;rw [NT.abd];rw [NT.get]at hx;cases h0:Nat.beq i 0 with
  | true=>rw [h0]at hx;cases v with
   | none=>cases hx
   | some y=>cases hx;rfl
  | false=>
   rw [h0]at hx;cases h1:Nat.beq (Nat.mod i 2) 1 with
   | true=>rw [h1]at hx;exact ihl hx
   | false=>rw [h1]at hx;exact ihr hx
theorem AT {h:AH}{b:Nat}{o:AO}(ho:h.ob.get b=some o)(k:AO→Bool):uU h b k=k o:=by
 cases h;exact ac0 ho
theorem ac1 (h:AH)(b:Nat)(o:Option AO)(k:AH→Bool):kQ h b o k=k ⟨h.nx,h.ob.set b o⟩:=by
 cases h with
 | mk nx ob=>exact NT.rZ ob b o fun bU=>k ⟨nx,bU⟩
theorem ac2 (h:AH)(o:AO)(k:Nat→AH→Bool):qs h o k=k h.nx ⟨h.nx+1,h.ob.set h.nx (some o)⟩:=by
 cases h with
 | mk nx ob=>
  show NT.lh (wW nx) ob nx (some o) (fun bU=>fN (Nat.succ nx) fun yA=>k nx ⟨yA,bU⟩)=_;rw [NT.rZ,dG]
theorem FE (h:AH)(ty:TypeId){l:ZZE}(ha:fi l=true)(k:Nat→AH→Bool):pM h ty l k=k h.nx (h.new ty l):=by
 unfold pM;rw [ha,jh,T4,dG,ac2];rfl
theorem al6 (c:NT Value):∀(l:List Value) (i:Nat) (k:List Value→Bool),(∀j v,l[j]? =some v→c.get (i+j)=some v)→vU c i l.length k=k l
 | [],i,k,_=>rfl
 | v::l,i,k,H=>by
  show NT.fY c i (fun v=>fN (Nat.succ i) fun i'=>vU c i' l.length fun l=>k (v::l))=_
  rw [ac0 (by have:=H 0 v rfl;rwa [Nat.add_zero]at this),dG,al6 c l (i+1) _ fun j u hu=>by
   have:=H (j+1) u (by simpa using hu);rwa [show i+(j+1)=i+1+j by omega]at this]
theorem Ua {h:AH}{b o:Nat}{v:Z}(hr:h.rd b o=some v):∃lo hi ty rw c,h.ob.get b=some (.cells lo hi ty rw c)∧lo≤o∧o+1≤hi∧c.get o=some v:=by
 unfold AH.rd at hr;split at hr
 · rename_i lo hi ty rw c heq;split at hr
   · rename_i hb;exact⟨lo,hi,ty,rw,c,heq,hb.1,hb.2,hr⟩
   · cases hr
 · cases hr
theorem axR {h:AH}{b o:Nat}{v:Z}(hr:h.rd b o=some v)(k:Z→Bool):yw h b o k=k v:=by
 obtain⟨lo,hi,ty,rw,c,h1,h2,h3,h4⟩:=Ua hr;unfold yw rf;rw [AT h1];show iff (Nat.ble lo o&&Nat.ble (Nat.succ o) hi) (NT.fY c o k)=_;have e:(Nat.ble lo o&&Nat.ble (Nat.succ o) hi)=true:=by simp only [zae,zaD];exact⟨h2,h3⟩
 rw [e,jh,ac0 h4]
theorem axS {h:AH}{b o:Nat}{l:ZZE}(hr:h.bH b o l)(hl:0<l.length):∃lo hi ty rw c,h.ob.get b=some (.cells lo hi ty rw c)∧lo≤o∧o+l.length≤hi∧∀j v,l[j]? =some v→c.get (o+j)=some v:=by
 obtain⟨lo,hi,ty,rw,c,h1,h2,h3,h4⟩:=Ua (hr 0 l[0] (by simp [hl]))
 have key:∀j v,l[j]? =some v→lo≤o+j∧o+j+1≤hi∧c.get (o+j)=some v:=by
  intro j v hv;obtain⟨CF,fx,dY,tu,c',g1,g2,g3,g4⟩:=Ua (hr j v hv);rw [h1]at g1;cases g1;exact⟨g2,g3,g4⟩
 refine⟨lo,hi,ty,rw,c,h1,h2,?_,fun j v hv=>(key j v hv).2.2⟩;have:=(key (l.length-1) l[l.length-1] (by simp [hl])).2.1;omega
theorem Ub {h:AH}{b o n:Nat}{l:ZZE}(hr:h.bH b o l)(hn:l.length=n)(hl:0<n)(k:ZZE→Bool):pL h b o n k=k l:=by
 subst hn;obtain⟨lo,hi,ty,rw,c,h1,h2,h3,h4⟩:=axS hr hl;unfold pL rf;rw [AT h1];show iff (Nat.ble lo o&&Nat.ble (Nat.add o l.length) hi) (vU c o l.length k)=_;have e:(Nat.ble lo o&&Nat.ble (Nat.add o l.length) hi)=true:=by simp only [zae,zaD];exact⟨h2,h3⟩
 rw [e,jh,al6 c l o k h4]
theorem Uc {h b o l}(hc:h.can b o l.length)(ha:fi l=true)(k:AH→Bool):xd h b o l k=k (h.wr b o l):=by
 obtain⟨lo,hi,ty,c,h1,h2,h3⟩:=hc;unfold xd rf;rw [AT h1];show iff (true&&Nat.ble lo o&&Nat.ble (Nat.add o l.length) hi&&fi l) _=_;have e:(true&&Nat.ble lo o&&Nat.ble (Nat.add o l.length) hi&&fi l)=true:=by simp only [zae,zaD];exact⟨⟨⟨trivial,h2⟩,h3⟩,ha⟩
 rw [e,jh,T4,ac1];unfold AH.wr;rw [h1]
theorem CG:∀(l:ZZE) (n:Nat),mA l n=decide (l.length=n)
 | [],0=>rfl
 | [],n+1=>by show false=_;simp
 | v::l,0=>by show false=_;simp
 | v::l,n+1=>by show mA l n=_;rw [CG l n];simp
section
variable {h:AH}{R:Value→AH→Prop}
theorem Ud {x}:WP .move [x] h R↔R x h:=ef fun _=>rfl
theorem aW {c a b}:WP .pick [.bool c,a,b] h R↔R (bif c then a else b) h:=ef fun k=>by cases c<;>rfl
theorem Ml {ty zero}(ha:fi zero=true):WP (.alloc ty zero) [] h R↔R (ak h.nx 0) (h.new ty zero):=ef fun k=>FE h ty ha _
theorem Ue {ty v}(ha:fi (cellsOf v)=true):WP (.box ty) [v] h R↔R (ak h.nx 0) (h.new ty (cellsOf v)):=ef fun k=>FE h ty ha _
abbrev gD (b o n c:Nat):Z:=.slice (some ⟨b,o,none⟩) n c
abbrev vi (n:Int):Z:=.int .i64 n
abbrev bJ:Z:=.slice none 0 0
theorem Uf {b o s v}(hr:h.rd b o=some v):WP .aB [.pointer (some ⟨b,o,s⟩)] h R↔R v h:=ef fun _=>axR hr _
theorem Ug {b o n s l}(hr:h.bH b o l)(hn:l.length=n)(h0:0<n):WP (.bZ n) [.pointer (some ⟨b,o,s⟩)] h R↔R (.agg ⟨l⟩) h:=ef fun _=>Ub hr hn h0 _
theorem Uh {b o n s v}(hc:h.can b o n)(hn:(cellsOf v).length=n)(ha:fi (cellsOf v)=true):WP (.store n) [.pointer (some ⟨b,o,s⟩),v] h R↔R undef (h.wr b o (cellsOf v)):=
 ef fun k=>by
  show iff (mA (cellsOf v) n) (xd h b o (cellsOf v) fun h=>k undef h)=_;rw [CG,zac hn,jh,Uc (by rw [hn];exact hc) ha]
theorem aQ {b o off s}:WP (.fieldAddr off) [.pointer (some ⟨b,o,s⟩)] h R↔R (ak b (o+off)) h:=ef fun k=>by
 show fN (Nat.add o off) (fun o'=>k (ak b o') h)=_;rw [dG];rfl
theorem Ui:∀ {l i v}(_:l[i]? =some v) (k:Z→Bool),vT l i k=k v
 | [],i,v,h,k=>by simp at h
 | x::l,0,v,h,k=>by simp at h;subst h;rfl
 | x::l,i+1,v,h,k=>by show vT l i k=_;exact Ui (by simpa using h) k
theorem ac3:∀ {l i}(_:i≤l.length) (k:ZZE→Bool),yz l i k=k (l.drop i)
 | [],0,h,k=>rfl
 | [],i+1,h,k=>by simp at h
 | x::l,0,h,k=>rfl
 | x::l,i+1,h,k=>by show yz l i k=_;rw [ac3 (by simpa using h)];rfl
theorem ac4:∀ {l i}(_:i≤l.length) (k:ZZE→Bool),yy l i k=k (l.take i)
 | [],0,h,k=>rfl
 | [],i+1,h,k=>by simp at h
 | x::l,0,h,k=>rfl
 | x::l,i+1,h,k=>by show yy l i (fun l'=>k (x::l'))=_;rw [ac4 (by simpa using h)];rfl
theorem axT {sz b o n c i kd s}(hi:i<n):WP (.cf sz) [.slice (some ⟨b,o,s⟩) n c,.int kd (i:Int)] h R↔R (ak b (o+i*sz)) h:=ef fun k=>by
 show iff (Nat.ble (Nat.succ i) n) (fN (Nat.add o (Nat.mul i sz)) fun o'=>k (ak b o') h)=_;have:Nat.ble (Nat.succ i) n=true:=by rw [zaD];exact hi
 rw [this,jh,dG];rfl
theorem axU {len sz b o i kd s}(hi:i<len):WP (.Q1 len sz) [.pointer (some ⟨b,o,s⟩),.int kd (i:Int)] h R↔R (ak b (o+i*sz)) h:=ef fun k=>by
 show iff (Nat.ble (Nat.succ i) len) (fN (Nat.add o (Nat.mul i sz)) fun o'=>k (ak b o') h)=_;have:Nat.ble (Nat.succ i) len=true:=by rw [zaD];exact hi
 rw [this,jh,dG];rfl
theorem axV {len i kd l v}(hi:i<len)(hv:l[i]? =some v):WP (.x9 len) [.agg ⟨l⟩,.int kd (i:Int)] h R↔R v h:=ef fun k=>by
 show iff (Nat.ble (Nat.succ i) len) (vT l i fun v=>k v h)=_;have:Nat.ble (Nat.succ i) len=true:=by rw [zaD];exact hi
 rw [this,jh,Ui hv]
theorem axW {len sz i kd l}(hi:i<len)(hl:len*sz≤l.length):WP (.X6 len sz) [.agg ⟨l⟩,.int kd (i:Int)] h R↔R (.agg ⟨(l.drop (i*sz)).take sz⟩) h:=ef fun k=>by
 show iff (Nat.ble (Nat.succ i) len) (yz l (Nat.mul i sz) fun l=>yy l sz fun l=>k (.agg ⟨l⟩) h)=_;have:Nat.ble (Nat.succ i) len=true:=by rw [zaD];exact hi
 have h1:i*sz+sz≤l.length:=by
  have:(i+1)*sz≤len*sz:=zbm _ hi;rw [zaR]at this;omega
 rw [this,jh,show Nat.mul i sz=i*sz from rfl,ac3 (by omega),ac4 (by simp only [List.length_drop];omega)]
theorem gE {k x y}:WP (.aL .add) [.int k x,.int k y] h R↔R (.int k (bN k (x+y))) h:=ef fun kk=>by
 show iff (jE k k) (fI (bN k (Int.add x y)) fun n=>kk (.int k n) h)=_;rw [uY,jh,tA];rfl
theorem lB {k x y}:WP (.aL .sub) [.int k x,.int k y] h R↔R (.int k (bN k (x-y))) h:=ef fun kk=>by
 show iff (jE k k) (fI (bN k (Int.sub x y)) fun n=>kk (.int k n) h)=_;rw [uY,jh,tA];rfl
theorem Mm {k x y}:WP (.aL .mul) [.int k x,.int k y] h R↔R (.int k (bN k (x*y))) h:=ef fun kk=>by
 show iff (jE k k) (fI (bN k (Int.mul x y)) fun n=>kk (.int k n) h)=_;rw [uY,jh,tA];rfl
theorem axX {k x y}(hy:y≠0):WP (.aL .rem) [.int k x,.int k y] h R↔R (.int k (x.tmod y)) h:=ef fun kk=>by
 show iff (jE k k) (bif qp y (.ofNat 0)then false else fI (Int.tmod x y) fun n=>kk (.int k n) h)=_;rw [uY,jh,Ih,show Int.ofNat 0=0 from rfl,zag hy,tA];rfl
theorem gr {k x y}:WP (.aL .eql) [.int k x,.int k y] h R↔R (.bool (decide (x=y))) h:=ef fun kk=>by
 show iff (jE k k) (fB (qp x y) fun b=>kk (.bool b) h)=_;rw [uY,jh,lA,Ih]
theorem gb {k x y}:WP (.aL .neq) [.int k x,.int k y] h R↔R (.bool (!decide (x=y))) h:=ef fun kk=>by
 show iff (jE k k) (fB (!qp x y) fun b=>kk (.bool b) h)=_;rw [uY,jh,lA,Ih]
theorem fj {k x y}:WP (.aL .lss) [.int k x,.int k y] h R↔R (.bool (decide (x<y))) h:=ef fun kk=>by
 show iff (jE k k) (fB (tB x y) fun b=>kk (.bool b) h)=_;rw [uY,jh,lA,T2]
theorem o8 {k x y}:WP (.aL .leq) [.int k x,.int k y] h R↔R (.bool (decide (x≤y))) h:=ef fun kk=>by
 show iff (jE k k) (fB (!tB y x) fun b=>kk (.bool b) h)=_;rw [uY,jh,lA,T2]
 congr 2
 rw [←decide_not]
 congr 1
 exact propext Int.not_lt
theorem kT {k x y}:WP (.aL .gtr) [.int k x,.int k y] h R↔R (.bool (decide (y<x))) h:=ef fun kk=>by
 show iff (jE k k) (fB (tB y x) fun b=>kk (.bool b) h)=_;rw [uY,jh,lA,T2]
theorem sk {k x y}:WP (.aL .geq) [.int k x,.int k y] h R↔R (.bool (decide (y≤x))) h:=ef fun kk=>by
 show iff (jE k k) (fB (!tB x y) fun b=>kk (.bool b) h)=_;rw [uY,jh,lA,T2]
 congr 2
 rw [←decide_not]
 congr 1
 exact propext Int.not_lt
theorem FF {k k' x}:WP (.conv k') [.int k x] h R↔R (.int k' (bN k' x)) h:=ef fun kk=>by
 show fI (bN k' x) (fun n=>kk (.int k' n) h)=_;rw [tA]
theorem dZ {b}:WP .ed [.bool b] h R↔R (.bool (!b)) h:=ef fun kk=>by
 show fB (!b) (fun b=>kk (.bool b) h)=_;rw [lA]
theorem ac5 {a b}:WP (.SC false) [.bool a,.bool b] h R↔R (.bool (a==b)) h:=ef fun kk=>by cases a<;>cases b<;>rfl
theorem ac6 {a b}:WP (.SC true) [.bool a,.bool b] h R↔R (.bool (a != b)) h:=ef fun kk=>by cases a<;>cases b<;>rfl
theorem bytes_inj {a b:ByteArray}:a.data.toList=b.data.toList↔a=b:=by
 cases a;cases b;simp [Array.toList_inj]
theorem axY {a b:ByteArray}:WP (.zT .eql) [.string a,.string b] h R↔R (.bool (decide (a=b))) h:=ef fun kk=>by
 show fB (nN a.data.toList b.data.toList) (fun b=>kk (.bool b) h)=_;rw [lA,T3,decide_eq_decide.2 bytes_inj]
theorem ac7 {a b:ByteArray}:WP (.zT .neq) [.string a,.string b] h R↔R (.bool (!decide (a=b))) h:=ef fun kk=>by
 show fB (!nN a.data.toList b.data.toList) (fun b=>kk (.bool b) h)=_;rw [lA,T3,decide_eq_decide.2 bytes_inj]
theorem aiX {nk ng b x y}(hx:lP nk x=some b)(hy:lP nk y=some true):WP (.rT nk ng) [x,y] h R↔R (.bool (b != ng)) h:=ef fun kk=>by
 show HX (lP nk x) (lP nk y) ng (fun v=>kk v h)=_;rw [hx,hy];cases b<;>cases ng<;>rfl
theorem fk {l i v}(hv:l[i]? =some v):WP (.extract i) [.tuple ⟨l⟩] h R↔R v h:=ef fun _=>Ui hv _
theorem ac8 {a n c}:WP .cb [.slice (some a) n c] h R↔R (.int .i64 (n:Int)) h:=ef fun _=>by cases a;rfl
theorem axZ {n c}:WP .cb [.slice none n c] h R↔R (.int .i64 0) h:=ef fun _=>rfl
theorem ax0 {s}:WP .Xz [.string s] h R↔R (.int .i64 (s.data.toList.length:Int)) h:=ef fun kk=>by
 show fN s.data.toList.length (fun n=>kk (.int .i64 (.ofNat n)) h)=_;rw [dG];rfl
theorem Ii {fn nf vs}(hn:nf≤vs.length):WP (.xZ fn nf) vs h R↔R (.func fn ⟨vs.take nf⟩ ⟨vs.drop nf⟩) h:=ef fun kk=>by
 show yy vs nf (fun a=>yz vs nf fun b=>kk (.func fn ⟨a⟩ ⟨b⟩) h)=_;rw [ac4 hn,ac3 hn]
theorem al7:∀ {ss vs}(_:ss=vs.map fun v=>(cellsOf v).length) (k:ZZE→Bool),EX ss vs k=k (vs.flatMap cellsOf)
 | [],[],_,k=>rfl
 | [],v::vs,h,k=>by simp at h
 | n::ss,[],h,k=>by simp at h
 | n::ss,v::vs,h,k=>by
  simp only [zaW,List.cons.injEq]at h;show iff (mA (cellsOf v) n) (EX ss vs fun l=>mc (cellsOf v) l k)=_;rw [CG,zac h.1.symm,jh,al7 h.2,CC];rfl
theorem ax1 {ss vs}(hs:ss=vs.map fun v=>(cellsOf v).length):WP (.x8 ss) vs h R↔R (.agg ⟨vs.flatMap cellsOf⟩) h:=ef fun _=>al7 hs _
end
abbrev W:=AH→Prop
def pr (p:Prim) (vs:ZZE) (K:Z→W):W:=fun h=>WP p vs h K
def ld (p:Prim) (vs:ZZE) (K:Z→W):W:=fun h=>WP p vs h fun v _=>K v h
def cl (P:Program) (w0:World) (f:FuncId) (vs:ZZE) (E K:Z→W):W:=fun h=>WF P w0 f vs h fun r h=>match r with | .ret v=>K v h | .bC v=>E v h
def dy (P:Program) (w0:World) (vs:List Value) (E K:Value→W):W:=match vs with
 | .func (.func g) ⟨first⟩ ⟨dm⟩::as=>cl P w0 g (first++(as++dm)) E K
 | .func (.yield l) ⟨[]⟩ ⟨[]⟩::as=>fun h=>WR P w0 l as h fun r h=>match r with
  | .ret v=>K v h
  | .bC v=>E v h
 | _=>fun _=>False
def pn (vs:ZZE) (E:Z→W):W:=match vs with | [.iface t x]=>E (.iface t x) | _=>fun _=>False
def gd (g:Z) (want:Bool) (A:(Z→W)→W) (K:Z→W):W:=match g with | .bool b=>bif tz b want then A K else K undef | _=>K undef
def br (c:Z) (A B:W):W:=match c with | .bool true=>A | .bool false=>B | _=>fun _=>False
def ck (p:Prim) (vs:ZZE) (v:Z) (K:W):W:=fun h=>WP p vs h (fun v' _=>yC v' v=true)∧K h
def ckm (p:Prim) (vs:ZZE) (v:Z) (K:W):W:=fun h=>p.fresh vs (Fi ⟨.e,[],.off,h⟩ v)=true∧K h
def gk (g:Z) (want:Bool) (A:W→W) (K:W):W:=match g with | .bool b=>bif tz b want then A K else K | _=>K
def gg {α:Type}(F:(α→W)→α→W):Nat→α→W | 0,_=>fun _=>False | n+1,a=>F (gg F n) a
def LP {α:Type}(F:(α→W)→α→W) (a:α):W:=fun h=>∃n,gg F n a h
theorem ac9 {α F}(Inv:α→AH→Prop)(μ:α→AH→Nat)
 (step:∀a h (k:α→W),Inv a h→(∀a' h',Inv a' h'→μ a' h'<μ a h→k a' h')→F k a h){a:α}{h:AH}(H:Inv a h):LP F a h:=by
 have key:∀n a h,Inv a h→μ a h<n→gg F n a h:=by
  intro n
  induction n with
  | zero=>intro a h _ hn;exact absurd hn (zbd _)
  | succ n ih=>intro a h hi hn;exact step a h _ hi fun a' h' fx hm=>ih a' h' fx (by omega)
 exact⟨_,key (μ a h+1) a h H (zax _)⟩
theorem tI (A:(Z→W)→W)(K:Z→W):gd (.bool true) true A K=A K:=rfl
theorem uZ (A:(Z→W)→W)(K:Z→W):gd (.bool false) false A K=A K:=rfl
theorem u9 (A:(Z→W)→W)(K:Z→W):gd (.bool true) false A K=K undef:=rfl
theorem tJ (A:(Z→W)→W)(K:Z→W):gd (.bool false) true A K=K undef:=rfl
theorem tK (w:Bool)(A:(Z→W)→W)(K:Z→W):gd undef w A K=K undef:=rfl
theorem ada (A:W→W)(K:W):gk (.bool true) true A K=A K:=rfl
theorem adb (A:W→W)(K:W):gk (.bool false) false A K=A K:=rfl
theorem ade (A:W→W)(K:W):gk (.bool true) false A K=K:=rfl
theorem adf (A:W→W)(K:W):gk (.bool false) true A K=K:=rfl
theorem adg (w:Bool)(A:W→W)(K:W):gk undef w A K=K:=rfl
theorem vd (A B:W):br (.bool true) A B=A:=rfl
theorem ve (A B:W):br (.bool false) A B=B:=rfl
def tL (σ:Sl):List (Pos×Z)→Prop | []=>True | (p,v)::U=>σ p=v∧tL σ U
def Sl.xf (σ:Sl):List (Pos×Z)→Sl | []=>σ | (p,v)::U=>Sl.up (Sl.xf σ U) p v
theorem AU {σ}:∀{U:List (Pos×Z)},tL σ U→σ.xf U=σ
 | [],_=>rfl
 | (p,v)::U,⟨h1,h2⟩=>by
  show Sl.up (σ.xf U) p v=σ;rw [AU h2]
  funext q
  unfold Sl.up;cases h:p.beq q with
  | true=>rw [←Pos.beq_iff.1 h];exact h1.symm
  | false=>rfl
section
variable {P:Program}{w0:World}{e:Env}{σ:Sl}{d:DS}{h:AH}{Q:PQ}{l:List cB}{dl:List nI}{a b c:fw}
theorem nA (H:Q .normal σ d h):gM P w0 .skip e σ d h Q:=H
theorem cT (H:wpOps P w0 l e σ d h Q):gM P w0 (.ops l) e σ d h Q:=H
theorem YZ (H:o6 P w0 dl e σ d h Q):gM P w0 (.draw dl) e σ d h Q:=H
theorem dC (H:gM P w0 a e σ d h (CB (fun σ d h=>gM P w0 b e σ d h Q) Q)):gM P w0 (.seq a b) e σ d h Q:=H
theorem cU (H:Q .normal σ d h):wpOps P w0 [] e σ d h Q:=H
theorem Y0 (H:Q .normal σ d h):o6 P w0 [] e σ d h Q:=H
theorem dD {K}(H:K σ d h):CB K Q .normal σ d h:=H
theorem n7 {id}(H:gM P w0 c e σ d h (acV id Q)):gM P w0 (.block id c) e σ d h Q:=H
theorem qR {id}(H:Q .normal σ d h):acV id Q .normal σ d h:=H
theorem mT {o v A B}(hv:iq σ o=v)(H:br v A B h)(ha:A h→gM P w0 a e σ d h Q)(hb:B h→gM P w0 b e σ d h Q):gM P w0 (.cond o a b) e σ d h Q:=by
 simp only [gM];rw [hv];unfold br at H
 revert H
 cases v<;>intro H<;>first | exact H.elim | skip
 rename_i t
 revert H
 cases t with
 | true=>exact ha
 | false=>exact hb
theorem Mn {dst p vs K K'}(H:pr p vs K h)(hK:∀v h,K v h→K' (σ.jg dst v) d h):nQ P w0 (.aU p) dst e σ d h vs Q K':=WP.mono hK H
theorem Uj {dst f vs E K K'}(H:cl P w0 f vs E K h)(hE:∀v h,E v h→Q (.bC v) σ d h)(hK:∀v h,K v h→K' (σ.jg dst v) d h):nQ P w0 (.call f) dst e σ d h vs Q K':=
 WF.mono (fun r h hr=>by cases r with | ret v=>exact hK _ _ hr | bC v=>exact hE _ _ hr) H
theorem al8 {dst:Option Pos}{vs:List Value}{E K:Value→W}{K':Sl→DS→AH→Prop}(H:dy P w0 vs E K h) (hE:∀v h,E v h→Q (.bC v) σ d h) (hK:∀v h,K v h→K' (σ.jg dst v) d h):nQ P w0 .dyn dst e σ d h vs Q K':=by
 unfold dy at H;simp only [nQ];split at H
 · exact WF.mono (fun r h hr=>by cases r with | ret v=>exact hK _ _ hr | bC v=>exact hE _ _ hr) H
 · exact WR.mono (fun r h hr=>by cases r with | ret v=>exact hK _ _ hr | bC v=>exact hE _ _ hr) H
 · exact H.elim
theorem ax2 {dst vs E K'}(H:pn vs E h)(hE:∀v h,E v h→Q (.bC v) σ d h):nQ P w0 .panic dst e σ d h vs Q K':=by
 unfold pn at H;simp only [nQ];split at H
 · exact hE _ _ H
 · exact H.elim
theorem Uk {dst act args g gv want A K K'}(hg:σ g=gv)(H:gd gv want A K h)(hA:A K h→nQ P w0 act dst e σ d h (args.map (iq σ)) Q K')(hK:∀v h,K v h→K' (σ.jg dst v) d h):
 wpOp P w0 ⟨dst,act,args,some (g,want)⟩ e σ d h Q K':=by
 unfold wpOp;simp only [];rw [hg];unfold gd at H
 revert H
 cases gv<;>intro H<;>first | exact hK _ _ H | skip
 rename_i b;simp only at H ⊢
 revert H
 cases tz b want with
 | true=>exact hA
 | false=>exact hK _ _
theorem ax3 {p args q g gv want A K}(hg:σ g=gv)(H:gk gv want A K h)(hA:A K h→CA (.aU p) (some q) (args.map (iq σ)) σ h∧K h):FA ⟨some q,.aU p,args,some (g,want)⟩ σ h∧K h:=by
 unfold FA;simp only [];rw [hg];unfold gk at H
 revert H
 cases gv<;>intro H<;>first | exact⟨trivial,H⟩ | skip
 rename_i b;simp only at H ⊢
 revert H
 cases tz b want with
 | true=>exact hA
 | false=>exact fun H=>⟨trivial,H⟩
theorem eo {dst x v}(hv:iq σ x=v)(H:wpOps P w0 l e (σ.jg dst v) d h Q):wpOps P w0 (⟨dst,.aU .move,[x],none⟩::l) e σ d h Q:=by
 subst hv;exact fun k hk=>hk _ _ H
theorem aT {dst p args vs K}(hv:args.map (iq σ)=vs)(H:pr p vs K h)(hK:∀v h,K v h→wpOps P w0 l e (σ.jg dst v) d h Q):wpOps P w0 (⟨dst,.aU p,args,none⟩::l) e σ d h Q:=by
 subst hv;exact Mn (P:=P) (w0:=w0) (e:=e) (dst:=dst) (Q:=Q) (K':=fun σ d h=>wpOps P w0 l e σ d h Q) H hK
theorem ta {dst f args vs E K}(hv:args.map (iq σ)=vs)(H:cl P w0 f vs E K h)(hE:∀v h,E v h→Q (.bC v) σ d h)(hK:∀v h,K v h→wpOps P w0 l e (σ.jg dst v) d h Q):wpOps P w0 (⟨dst,.call f,args,none⟩::l) e σ d h Q:=by
 subst hv;exact Uj (e:=e) (dst:=dst) (K':=fun σ d h=>wpOps P w0 l e σ d h Q) H hE hK
theorem aud {dst args vs E K}(hv:args.map (iq σ)=vs)(H:dy P w0 vs E K h)(hE:∀v h,E v h→Q (.bC v) σ d h)(hK:∀v h,K v h→wpOps P w0 l e (σ.jg dst v) d h Q):wpOps P w0 (⟨dst,.dyn,args,none⟩::l) e σ d h Q:=by
 subst hv;exact al8 (e:=e) (dst:=dst) (K':=fun σ d h=>wpOps P w0 l e σ d h Q) H hE hK
theorem zX {dst x v g gv want K}(hg:σ g=gv)(hv:iq σ x=v)(H:gd gv want (fun k=>k v) K h)(hK:∀v h,K v h→wpOps P w0 l e (σ.jg dst v) d h Q):wpOps P w0 (⟨dst,.aU .move,[x],some (g,want)⟩::l) e σ d h Q:=by
 subst hv;exact Uk (K':=fun σ d h=>wpOps P w0 l e σ d h Q) hg H (fun H k hk=>hk _ _ (hK _ _ H)) hK
theorem hO {dst p args vs g gv want K}(hg:σ g=gv)(hv:args.map (iq σ)=vs)(H:gd gv want (fun k=>pr p vs k) K h)(hK:∀v h,K v h→wpOps P w0 l e (σ.jg dst v) d h Q):wpOps P w0 (⟨dst,.aU p,args,some (g,want)⟩::l) e σ d h Q:=by
 subst hv;exact Uk (K':=fun σ d h=>wpOps P w0 l e σ d h Q) hg H (fun H=>WP.mono hK H) hK
theorem Y8 {dst f args vs g gv want E K}(hg:σ g=gv)(hv:args.map (iq σ)=vs)(H:gd gv want (fun k=>cl P w0 f vs E k) K h)(hE:∀v h,E v h→Q (.bC v) σ d h)(hK:∀v h,K v h→wpOps P w0 l e (σ.jg dst v) d h Q):wpOps P w0 (⟨dst,.call f,args,some (g,want)⟩::l) e σ d h Q:=by
 subst hv;exact Uk (K':=fun σ d h=>wpOps P w0 l e σ d h Q) hg H (fun H=>Uj H hE hK) hK
theorem ait {i dst x v}(hv:iq σ x=v)(H:o6 P w0 dl e (σ.jg dst v) d h Q):o6 P w0 (.op i ⟨dst,.aU .move,[x],none⟩::dl) e σ d h Q:=by
 subst hv;exact fun k hk=>hk _ _ H
theorem qe {i dst p args vs K}(hv:args.map (iq σ)=vs)(H:pr p vs K h)(hK:∀v h,K v h→o6 P w0 dl e (σ.jg dst v) d h Q):o6 P w0 (.op i ⟨dst,.aU p,args,none⟩::dl) e σ d h Q:=by
 subst hv;exact Mn (P:=P) (w0:=w0) (e:=e) (dst:=dst) (Q:=Q) (K':=fun σ d h=>o6 P w0 dl e σ d h Q) H hK
theorem atD {i dst f args vs E K}(hv:args.map (iq σ)=vs)(H:cl P w0 f vs E K h)(hE:∀v h,E v h→Q (.bC v) σ d h)(hK:∀v h,K v h→o6 P w0 dl e (σ.jg dst v) d h Q):o6 P w0 (.op i ⟨dst,.call f,args,none⟩::dl) e σ d h Q:=by
 subst hv;exact Uj (e:=e) (dst:=dst) (K':=fun σ d h=>o6 P w0 dl e σ d h Q) H hE hK
theorem Ew {i p args vs q v K}(hm:p.makes=false)(hq:σ q=v)(hv:args.map (iq σ)=vs)(H:ck p vs v K h)(hK:K h→o6 P w0 dl e σ d h Q):o6 P w0 (.mz i ⟨some q,.aU p,args,none⟩::dl) e σ d h Q:=by
 subst hv;subst hq;exact⟨by unfold FA CA;simp only [hm];exact H.1,hK H.2⟩
theorem Rx {α}(U:List (Pos×Z))(M:α→List (Pos×Z))(π:Sl→α)(J:α→W)(hM:∀σ,tL σ (M (π σ)))(hb:∀(x:α) (σ:Sl) (h:AH),J x h→gM P w0 b e ((σ.xf U).xf (M x)) d h Q)
 (ha:gM P w0 a e σ d h (CB (fun σ d' h=>d'=d∧tL σ U∧J (π σ) h) Q)):gM P w0 (.seq a b) e σ d h Q:=by
 refine T0 a (fun x σ d' h hx=>?_) ha;cases x with
 | normal=>
  obtain⟨rfl,h2,h3⟩:=hx;have:=hb (π σ) σ h h3
  rwa [AU h2,AU (hM σ)]at this
 | _=>exact hx
theorem at4 (cq:P.follows .mixedOrders=true){α:Type}(U:List (Pos×Z))(M:α→List (Pos×Z))(π:Sl→α)(F:(α→W)→α→W)(hM:∀σ,tL σ (M (π σ)))
 (hF:∀(k:α→W) (x:α) (σ:Sl) (h:AH),F k x h→gM P w0 c e ((σ.xf U).xf (M x)) d h (CB (fun σ d' h=>d'=d∧tL σ U∧k (π σ) h) Q)){x:α}(hx:π σ=x) (hU:tL σ U) (H:LP F x h):gM P w0 (.loop c) e σ d h Q:=by
 subst hx;obtain⟨n,H⟩:=H
 revert H hU
 have key:∀n σ h,tL σ U→gg F n (π σ) h→WC P w0 (.loop c) e σ d h Q:=by
  intro n
  induction n with
  | zero=>intro σ h _ H;exact H.elim
  | succ n ih=>
   intro σ h hU H;refine acW cq ?_;have h1:=hF (gg F n) (π σ) σ h H;rw [AU hU,AU (hM σ)]at h1;refine T0 c (fun x σ d' h hx=>?_) h1;cases x with
   | normal=>
    obtain⟨rfl,h2,h3⟩:=hx;exact ih σ h h2 h3
   | _=>exact hx
 exact key n σ h
end
end
end Go.Ve
