/- Part 10: VEval, part 34: more operations, the rest: pointers as unsafe.Pointer, a string's bytes appended, unsafe.String, a range over a map. No condition. And what follows it. -/
import Derived.Test.YteeibihhdldjfaaGreatDoorVeI
import Derived.Lib.UnsafeStr
set_option linter.unusedVariables false
set_option linter.unusedSimpArgs false
namespace Go.Ve
open Go.RowKit
section
variable {P:Program}{w0 w:World}{φ:aO}{h:AH}{ρ:Operand→Value}{o:Oper}{vs:List Value}{k:KV}
theorem VR.al0 {v':Value}(h:VR φ (.pointer none) v'):v'= .pointer none:=by cases h;rfl
theorem HR.shape (H:HR P w0 φ h w){a a':Addr}{lo hi:Nat}{ty:TypeId}{rw:Bool}{c:NT Value}(hs:φ a.block≠none) (ha:AtR φ a a') (ho:h.ob.get a.block=some (.cells lo hi ty rw c)) :
 ∃d n,w.shape? a'.block=some (ty,n)∧d≤lo∧(lo<hi→hi-d≤n)∧a'.off+d=a.off∧a'.spot=none:=by
 obtain⟨b,d,arr,fr,v1,v2,v3,v4,v5,v6,v7,_⟩:=H.at hs ha ho
 refine⟨d,arr.size,by simp [World.shape?,v2,v5],v6,fun bJ=> ?_,v3,v4⟩
 obtain⟨_,_,_,g,_⟩:=v7 (hi-1) (by omega) (by omega)
 have:=(Array.getElem?_eq_some_iff.1 g).1
 omega
theorem aka {x:Operand}{s t te:TypeId}{j:TypeInfo}(ho:o.op= .convert s t x) (hs:P.underlying s=some (.pointer te)) (ht:P.underlying t=some .unsafePointer) (hi:P.info? te=some j) (hj:j.size≠0) (H:HR P w0 φ h w) (hv:LR φ vs ([x].map ρ)) (e:abA vs h k=true):PR P w0 φ h ((execOp ρ o).run P w) fun v h'=>k v h'=true:=by
 obtain⟨p,ar,e1⟩:=fy e;clear e;subst ar;have e:=e1;clear e1
 obtain⟨p',hp,hr⟩:=hv.one
 simp at hp;subst hp
 obtain⟨a,ar,e1⟩:=mO e;clear e;subst ar
 obtain⟨a',hx,hf,dH⟩:=hr.lB
 obtain⟨lo,dK,ty,oh,c,g1,e2⟩:=uQ e1
 obtain⟨g2,e3⟩:=cI e2
 simp only [Bool.and_eq_true]at g2
 have g3:=Nat.le_of_ble_eq_true g2.1
 have g4:a.off<dK:=Nat.le_of_ble_eq_true g2.2
 obtain⟨d,n,q1,q2,q3,q4,q5⟩:=H.shape hf dH g1
 have q3:=q3 (by omega)
 refine .same H ?_ (.ptr ⟨a.block,a.off,none⟩ _ hf dH) e3
 simp only [execOp,ho,hx]
 simp [Lib.run_to_unsafe (P:=P) w a' hs ht hi hj q1 (by omega)]
theorem al1 {fits:TypeId→Bool}{d:Nat}{e:TypeId}{c c' off n:Nat}(hc:c≤c') (h:rowAt P fits d e c off n=true):rowAt P fits d e c' off n=true:=by
 cases d with
 | zero=>cases h
 | succ d =>
  unfold rowAt at h ⊢
  simp only at h ⊢
  split at h
  · cases h
  · rename_i hs
    rw [if_neg hs]
    simp only [Bool.or_eq_true,Bool.and_eq_true,decide_eq_true_eq]at h ⊢
    rcases h with⟨⟨h1,h2⟩,h3⟩ | ⟨h1,h2⟩
    · exact .inl ⟨⟨h1,by omega⟩,h3⟩
    · exact .inr ⟨by omega,h2⟩
theorem acJ:∀{d:Nat}{e:TypeId}{c c' off:Nat}{u:TypeId}{n:Nat},c≤c'→liesAt P d e c off u n=true→liesAt P d e c' off u n=true
 | 0,_,_,_,_,_,_,_,h=>by cases h
 | d+1,e,c,c',off,u,n,hc,h=>by
  unfold liesAt at h ⊢
  rw [Bool.or_eq_true]at h ⊢
  rcases h with h | h
  · exact .inl (al1 hc h)
  · refine .inr ?_
    split at h
    · exact acJ hc h
    · cases h
theorem acK {ty hi:Nat}:∀{l:List (TypeId×Nat)},K7 ty hi l=true→∃n,(ty,n)∈l∧n≤hi
 | [],h=>by cases h
 | (t,n)::l,h=>by
  unfold K7 at h
  cases hb:Nat.beq t ty&&Nat.ble n hi with
  | true =>
   rw [Bool.and_eq_true]at hb
   obtain rfl:=Nat.eq_of_beq_eq_true hb.1
   exact⟨n,.head _,Nat.le_of_ble_eq_true hb.2⟩
  | false =>
   rw [hb]at h
   obtain⟨m,h1,h2⟩:=acK (l:=l) (by simpa using h)
   exact⟨m,.tail _ h1,h2⟩
theorem al2 {u t:TypeId}{n:Nat}(h:(t,n)∈Lq P u):n=P.cellsOf t∧n≠0∧liesAt P P.depth t 1 0 u 1=true:=by
 unfold Lq at h
 obtain⟨t',h1,h2⟩:=List.mem_map.1 h
 cases h2
 have h3:=(List.mem_filter.1 h1).2
 simp only [Bool.and_eq_true,Bool.not_eq_true',beq_eq_false_iff_ne]at h3
 exact⟨rfl,h3.1.2,h3.2⟩
theorem akb {x:Operand}{s t u:TypeId}{j:TypeInfo}(ho:o.op= .convert s t x) (hs:P.underlying s=some .unsafePointer) (ht:P.underlying t=some (.pointer u)) (hi:P.info? u=some j) (H:HR P w0 φ h w) (hv:LR φ vs ([x].map ρ)) (e:abB (Lq P u) vs h k=true):PR P w0 φ h ((execOp ρ o).run P w) fun v h'=>k v h'=true:=by
 obtain⟨p,ar,e1⟩:=fy e;clear e;subst ar;have e:=e1;clear e1
 obtain⟨p',hp,hr⟩:=hv.one
 simp at hp;subst hp
 obtain⟨a,ar,e1⟩:=mO e;clear e;subst ar
 obtain⟨a',hx,hf,dH⟩:=hr.lB
 obtain⟨lo,dK,ty,oh,c,g1,e2⟩:=uQ e1
 obtain⟨g2,e3⟩:=cI e2
 simp only [Bool.and_eq_true]at g2
 obtain⟨⟨g2,g3⟩,g4⟩:=g2
 have g2:lo=0:=Nat.eq_of_beq_eq_true g2
 have g3:a.off=0:=Nat.eq_of_beq_eq_true g3
 obtain⟨m,g5,g6⟩:=acK g4
 obtain⟨g7,g8,g9⟩:=al2 g5
 obtain⟨d,n,q1,q2,q3,q4,q5⟩:=H.shape hf dH g1
 have q3:=q3 (by omega)
 have acL:a'.off=0:=by omega
 refine .same H ?_ (.ptr ⟨a.block,a.off,none⟩ _ hf dH) e3
 simp only [execOp,ho,hx]
 have hn:P.cellsOf ty≤n:=by omega
 have h1:1≤n / P.cellsOf ty:=(Nat.one_le_div_iff (by omega)).2 hn
 simp [Lib.run_from_unsafe (P:=P) w a' hs ht hi q1 (by rw [acL];exact acJ h1 g9)]
theorem al3 {x y:Value}(h:K8 x y=true):∃a b,x= .pointer (some a)∧y= .pointer (some b)∧a.block=b.block∧a.off=b.off:=by
 unfold K8 at h
 split at h
 · rename_i a b
   rw [Bool.and_eq_true]at h
   exact⟨a,b,rfl,rfl,Nat.eq_of_beq_eq_true h.1,Nat.eq_of_beq_eq_true h.2⟩
 · cases h
theorem aaB {op:BinOp}{t u te:TypeId}{j:TypeInfo}{x y:Operand}{ng:Bool}(ho:o.op= .binOp op t x y u) (aY:(op= .eql∧ng=false)∨(op= .neq∧ng=true)) (hu:P.underlying t=some (.pointer te)) (hi:P.info? te=some j) (H:HR P w0 φ h w) (hv:LR φ vs ([x,y].map ρ)) (e:abD ng vs h k=true):PR P w0 φ h ((execOp ρ o).run P w) fun v h'=>k v h'=true:=by
 obtain⟨p,q,ar,e1⟩:=ji e;clear e;subst ar
 cases TU:K8 p q with
 | false =>
  rw [TU,cond_false]at e1
  exact qY (nk:=0) ho aY hu rfl (fun h=>by cases h) H hv e1
 | true =>
  rw [TU,cond_true]at e1
  obtain⟨a,b,al4,al5,hb,acL⟩:=al3 TU
  subst al4 al5
  obtain⟨p',q',hp,hr,hq⟩:=hv.two
  simp at hp;obtain⟨e2,e3⟩:=hp;subst e2 e3
  obtain⟨a',hx,hf,dH⟩:=hr.lB
  obtain⟨b',hy,hf',FF⟩:=hq.lB
  obtain⟨a2,ar,e2⟩:=mO e1
  cases ar
  obtain⟨ob,g1,e3⟩:=zw e2
  obtain⟨B,d,n,o',m1,m2,m3,m4⟩:=H.live hf g1
  obtain⟨c1,c2,c3⟩:=dH B d n m1
  obtain⟨d1,d2,d3⟩:=FF B d n (by rw [←hb];exact m1)
  have o6:a'=b':=by
   cases a';cases b'
   simp only at c1 c2 c3 d1 d2 d3
   subst c1 c3 d1 d3
   congr 1
   omega
  subst o6
  rw [jV]at e3
  have hg:=acM (P:=P) (w:=w) (nk:=0) (op:=op) (t:=t) (X:=x) (Y:=y) (a:=.pointer (some a')) (b:=.pointer (some a')) rfl rfl (fun h=>by cases h)
  refine .same H ?_ (.bool _) e3
  simp only [execOp,ho,hx,hy]
  rcases aY with⟨rfl,rfl⟩ | ⟨rfl,rfl⟩
  · simp [hg,run_eql_ptr_same (P:=P) w a' hu hi]
  · simp [hg,Lib.run_neq_ptr_same (P:=P) w a' hu hi]
theorem akw {c:Call}{x:Operand}(ho:o.op= .call c) (hc:c.callee= .builtin .unsafeSliceData) (ha:c.args= #[x]) (H:HR P w0 φ h w) (hv:LR φ vs ([x].map ρ)) (e:abE vs h k=true):PR P w0 φ h ((execOp ρ o).run P w) fun v h'=>k v h'=true:=by
 obtain⟨p,ar,e1⟩:=fy e;clear e;subst ar;have e:=e1;clear e1
 obtain⟨p',hp,hr⟩:=hv.one
 simp at hp;subst hp
 rcases qU e with⟨l,c',ar,e1⟩ | ⟨a,l,c',ar,e1⟩<;>(clear e;subst ar)
 · obtain⟨rfl,rfl,hx⟩:=hr.sw
   refine .same H ?_ .Kn e1
   rw [me ho hc]
   simp [builtin,ha,hx,Lib.run_unsafeSliceData_nil]
 · obtain⟨a',dJ,hx,hs,jE⟩:=hr.pW
   obtain⟨h1,e2⟩:=cI e1
   have h1:1≤l:=Nat.le_of_ble_eq_true h1
   have dH:AtR φ a a'∧dJ≠0:=by
    rcases jE with⟨_,h2,h3,h4⟩ | ⟨_,_,_,h3,h4⟩
    · exact⟨h4 (by omega),by omega⟩
    · exact⟨(h4 (by omega)).1,by omega⟩
   refine .same H ?_ (.ptr ⟨a.block,a.off,none⟩ _ hs dH.1) e2
   rw [me ho hc]
   simp [builtin,ha,hx,Lib.run_unsafeSliceData_row (P:=P) w _ _ a' l dJ dH.2]
theorem acN:∀{l:List Value}{k:List UInt8→Bool},aby l k=true→∃m:List UInt8,l=m.map (fun c=>Value.int .u8 c.toNat)∧k m=true
 | [],k,h=>⟨[],rfl,h⟩
 | v::l,k,h=>by
  obtain⟨kd,n,ar,e1⟩:=og (show lW v _=true from h)
  subst ar
  cases n with
  | negSucc n=>cases e1
  | ofNat n =>
   obtain⟨e2,e3⟩:=cI (show iff (gK kd .u8&&Nat.ble (Nat.succ n) 256) _=true from e1)
   rw [Bool.and_eq_true]at e2
   obtain rfl:=o5 e2.1
   have bJ:n<256:=Nat.le_of_ble_eq_true e2.2
   obtain⟨m,h1,h2⟩:=acN (l:=l) e3
   refine⟨UInt8.ofNat n::m, ?_,h2⟩
   rw [h1]
   have:(UInt8.ofNat n).toNat=n:=by simp [UInt8.toNat_ofNat'];omega
   simp [this]
theorem al6 {ox:Array TypeId}{ty t:TypeId}(h0:ox[0]? =some t) (z:Option Addr) (kd:IntKind) :
 (Builtin.unsafeString_ ox ty #[.pointer z,.int kd 0]).run P w= .ok (.string .empty) w:=by
 have hm:IntKind.i64.max=9223372036854775807:=rfl
 cases z<;>refine(Sem.run_bind P w (asInt (.int kd 0)) _).trans ?_<;>simp [h0,asInt,asIntOf,hm]
theorem al7 {ox:Array TypeId}{ty t e:TypeId}(h0:ox[0]? =some t) (hp:P.underlying t=some (.pointer e)) (hc:P.cellsOf e=1) (a:Addr) (cells:Nat) (hsh:w.shape? a.block=some (e,cells)) (l:List UInt8) (hl:l.length≠0) (hn:a.off+l.length≤cells) (h63:l.length≤1048576) (kd:IntKind)
 (px:∀j x,l[j]? =some x→w.cell? (a.add j)=some (.int .u8 x.toNat)) :
 (Builtin.unsafeString_ ox ty #[.pointer (some a),.int kd l.length]).run P w= .ok (.string ⟨l.toArray⟩) (w.freeze a l.length):=by
 have sR:=Lib.run_loadBytes (P:=P) w l a .empty px
 have al8:liesAt P P.depth e (cells / P.cellsOf e) a.off e l.length=true:=by
  have hd:P.depth=(2*(P.types.size+Made.depth)+1)+1:=rfl
  rw [hd]
  simp only [liesAt,Bool.or_eq_true]
  left
  rw [hd]
  have h1:a.off+l.length≤cells / P.cellsOf e:=by rw [hc];simpa using hn
  rw [hc]at h1
  simp at h1
  simp [rowAt,hc,h1,sameLayout,Nat.mod_one]
 have Lt:¬(9223372036854775807:Int)<(l.length:Int):=by omega
 have acO:IntKind.i64.max=9223372036854775807:=rfl
 have sS:¬(l.length:Int)<0:=by omega
 have iM:l≠[]:=fun e=>hl (by simp [e])
 refine(Sem.run_bind P w (asInt (.int kd l.length)) _).trans ?_
 simp [h0,asInt,asIntOf,acO,Lt,sS,iM,variablesAt,hsh,elemOf,run_underlying hp,al8,sR]
theorem al9 {ty n:Nat}{a:Addr}(e:abF ty n h k a=true):∃lo hi c m bj,h.ob.get a.block=some (.cells lo hi ty true c)∧lo≤a.off∧a.off+n≤hi∧n≤1048576∧m.length=n∧
 (∀j x,m[j]? =some x→c.get (a.off+j)=some (.int .u8 (UInt8.toNat x)))∧h.ob.ko a.block (some (.cells lo hi ty false c)) bj∧k (.string ⟨⟨m⟩⟩) ⟨h.nx,bj⟩=true:=by
 cases a with
 | mk b off sp =>
  obtain⟨lo,hi,cJ,oh,c,g1,e2⟩:=uQ (show mW h b _=true from e)
  obtain⟨g2,e3⟩:=cI e2
  simp only [Bool.and_eq_true]at g2
  obtain⟨⟨⟨⟨g2,g3⟩,g4⟩,g5⟩,g6⟩:=g2
  subst g2
  obtain rfl:=Nat.eq_of_beq_eq_true g3
  obtain⟨l,e4,g7,g8⟩:=Lo _ e3
  obtain⟨m,rfl,e5⟩:=acN e4
  obtain⟨bj,g9,e6⟩:=o8 e5
  refine⟨lo,hi,c,m,bj,g1,Nat.le_of_ble_eq_true g4,Nat.le_of_ble_eq_true g5,Nat.le_of_ble_eq_true g6,by simpa using g7,fun j x hj=>g8 j _ (by simp [hj]),g9,e6⟩
theorem akx {c:Call}{x y:Operand}{t u:TypeId}(ho:o.op= .call c) (hc:c.callee= .builtin .unsafeString) (ha:c.args= #[x,y]) (h0:c.argTypes[0]? =some t) (hu:P.underlying t=some (.pointer u)) (h1:P.cellsOf u=1) (H:HR P w0 φ h w) (hv:LR φ vs ([x,y].map ρ)) (e:abG u vs h k=true):PR P w0 φ h ((execOp ρ o).run P w) fun v h'=>k v h'=true:=by
 obtain⟨p,q,ar,e1⟩:=ji e;clear e;subst ar
 obtain⟨p',q',hp,hr,hq⟩:=hv.two
 simp at hp;obtain⟨e2,e3⟩:=hp;subst e2 e3
 obtain⟨kd,n,ar,e2⟩:=um e1;subst ar;clear e1
 have hn:=hq.iZ
 have acO:IntKind.i64.max=9223372036854775807:=rfl
 split at e2
 · rename_i q
   have hpx:∃z,ρ x= .pointer z:=by
    cases q with
    | none=>exact⟨_,hr.al0⟩
    | some a=>obtain⟨a',hx,_⟩:=hr.lB;exact⟨_,hx⟩
   obtain⟨z,hz⟩:=hpx
   by_cases oj:n=0
   · subst oj
     rw [ma rfl,cond_true]at e2
     refine .same H ?_ (.str _) e2
     rw [me ho hc]
     have Cf:=al6 (P:=P) (w:=w) (ty:=o.type) h0 z kd
     simp [builtin,ha,hz,hn,Cf]
     rfl
   · rw [gg oj,cond_false]at e2
     cases q with
     | none=>cases e2
     | some a =>
      obtain⟨a',hx,hf,dH⟩:=hr.lB
      obtain⟨lo,hi,cc,m,bj,g1,g2,g3,g4,g5,g6,g7,g8⟩:=al9 e2
      subst g5
      obtain⟨b,d,arr,fr,v1,v2,v3,v4,v5,v6,v7,v8,v9⟩:=H.at hf dH g1
      obtain rfl:=v9 rfl
      have fQ:a'.off+m.length≤arr.size:=by
       obtain⟨_,_,_,g,_⟩:=v7 (a.off+m.length-1) (by omega) (by omega)
       have:=(Array.getElem?_eq_some_iff.1 g).1
       omega
      have px:∀j x,m[j]? =some x→w.cell? (a'.add j)=some (.int .u8 x.toNat):=fun j x hj=>by
       have Es:=(List.getElem?_eq_some_iff.1 hj).1
       obtain⟨v',q1,q2⟩:=H.cell hf dH g1 (j:=j) (by omega) (by omega) (g6 j x hj)
       rw [q1,q2.iZ]
      have cD:=al7 (P:=P) (w:=w) (ty:=o.type) h0 hu h1 a' arr.size (by simp [World.shape?,v2,v5]) m oj fQ g4 kd px
      have nP:(w.freeze a' m.length)={w with heap:=w.heap.modify a'.block fun
       | .cells c elem (lo,hi)=>.cells c elem (if lo==hi then(a'.off,a'.off+m.length)else(min lo a'.off,max hi (a'.off+m.length)))
       | o=>o}:=by unfold World.freeze;rw [if_neg oj];rfl
      refine⟨_,w.freeze a' m.length,_,_,φ,.inl ?_,g8,Ext.refl _ _,Nat.le_refl _,.str _, ?_⟩
      · rw [me ho hc]
        simp only [builtin,ha,List.map_toArray,List.map_cons,List.map_nil,hx,hn]
        rw [show(Int.ofNat m.length)=(m.length:Int)from rfl]
        simp [cD]
      · refine H.kE (h':=⟨h.nx,bj⟩) (o':=.cells arr u (a'.off,a'.off+m.length)) v1 g7 rfl (.cells _ _ _ _ _ _ _ _ _ (fun h=>by cases h) v6 rfl v7) (v8 rfl) ?_ (fun k hk=> ?_) ?_ ?_ ?_ ?_
        · rw [nP];simp [Array.getElem?_modify,v2,v5]
        · rw [nP];simp only [Array.getElem?_modify];rw [if_neg (by rw [v2];exact fun e=>hk e.symm)]
        · rw [nP];simp
        · rw [nP]
        · rw [nP]
        · rw [nP]
 · cases e2
theorem acP:∀(l:List UInt8){k:List Value→Bool},Tq l k=true→k (l.map fun c=>.int .u8 (.ofNat c.toNat))=true
 | [],k,h=>h
 | c::l,k,h=>by
  have h':fN c.toNat (fun n=>Tq l fun l=>k (.int .u8 (.ofNat n)::l))=true:=h
  rw [cz]at h'
  exact acP l h'
theorem acQ (φ:aO):∀l:List UInt8,LR φ (l.map fun c=>.int .u8 (.ofNat c.toNat)) (l.map fun c=>.int .u8 (.ofNat c.toNat))
 | []=>.nil
 | c::l=>.cons _ _ _ _ (.int _ _) (acQ φ l)
theorem akv {c:Call}{s x:Operand}{t u e':TypeId}{i:TypeInfo}{z:Value}(ho:o.op= .call c) (hc:c.callee= .builtin .append) (ha:c.args= #[s,x]) (h0:c.argTypes[0]? =some t) (h1:c.argTypes[1]? =some u) (ht:P.underlying t=some (.slice e')) (hu:P.underlying u=some .string)
 (hi:P.info? e'=some i) (hz:i.zero=some z) (yV:i.bytes≤65536) (nK:z.cells.size=i.size) (fQ:i.size=1) (H:HR P w0 φ h w) (hv:LR φ vs ([s,x].map ρ)) (e:abz e' z.cells.toList vs h k=true):PR P w0 φ h ((execOp ρ o).run P w) fun v h'=>k v h'=true:=by
 obtain⟨p,q,ar,e1⟩:=ji e;clear e;subst ar;have e:=e1;clear e1
 obtain⟨p',q',hp,hr,hq⟩:=hv.two
 simp at hp;obtain⟨e1,e2⟩:=hp;subst e1 e2
 have cD:∀{v':Value}{w':World},(Builtin.append_ c.argTypes o.type #[ρ s,ρ x]).run P w= .ok v' w'→(execOp ρ o).run P w= .ok (.value v') w':=by
  intro v' w' hh
  rw [me ho hc]
  simp [builtin,ha,hh]
 obtain⟨str,ar,e1⟩:=mf e;subst ar
 have hx:=hq.kV
 have e2:=acP _ e1
 rw [cz]at e2
 obtain⟨_,e3⟩:=cI e2
 refine acR (p:=p) (p':=ρ s) (q':=ρ x) (n:=str.size) (xs:=str.data.toList.map fun c=>.int .u8 (.ofNat c.toNat)) cD h0 h1 ht (eu:=0) (.inr hu) hi hz yV nK (by omega) H hr (by rw [fQ];simp) (acQ φ _) ?_ (fun w' _=> ?_) ?_
 · rw [hx];simp [Builtin.lenOf]
 · rw [hx]
   simp only [Builtin.firstCells,Sem.run_pure]
   congr 1
   apply Array.ext'
   simp
 · rw [fQ]
   have hl:(str.data.toList.map fun c=>Value.int .u8 (.ofNat c.toNat)).length=str.size:=by simp
   rw [hl]at e3
   exact e3
theorem TV:∀(l:List Nat) (n:Nat),sH l n=l.contains n
 | [],n=>rfl
 | m::l,n=>by
  have h1:sH (m::l) n=bif Nat.beq m n then true else sH l n:=rfl
  rw [h1,TV l n,List.contains_cons]
  by_cases h:m=n
  · subst h;simp [ma]
  · rw [gg h];simp [Ne.symm h]
theorem acS:∀(l:List Nat){n:Nat}{k:List Nat→Bool},Fm l n k=true→k (l++[n])=true
 | [],n,k,h=>h
 | x::l,n,k,h=>acS l (show Fm l n (fun l'=>k (x::l'))=true from h)
theorem TW {since:Nat}{seen:List Nat}:∀(es:List (Value×Value×Nat)){k:List (Value×Value×Nat)→Bool},uL es since seen k=true→(∀e∈es,e.2.2<since)∧k (es.filter fun e=> !seen.contains e.2.2)=true
 | [],k,h=>⟨fun e he=>(by cases he),h⟩
 | e::es,k,h=>by
  obtain⟨h1,h2⟩:=cI (show iff (Nat.ble (Nat.succ e.2.2) since) (bif sH seen e.2.2 then uL es since seen k else uL es since seen fun l=>k (e::l))=true from h)
  have h1:e.2.2<since:=Nat.le_of_ble_eq_true h1
  rw [TV]at h2
  cases hm:seen.contains e.2.2 with
  | true =>
   rw [hm,cond_true]at h2
   obtain⟨h3,h4⟩:=TW es h2
   refine⟨fun x hx=> ?_, ?_⟩
   · rcases List.mem_cons.1 hx with rfl | hx
     · exact h1
     · exact h3 x hx
   · rw [List.filter_cons_of_neg (by rw [hm];simp)];exact h4
  | false =>
   rw [hm,cond_false]at h2
   obtain⟨h3,h4⟩:=TW es h2
   refine⟨fun x hx=> ?_, ?_⟩
   · rcases List.mem_cons.1 hx with rfl | hx
     · exact h1
     · exact h3 x hx
   · rw [List.filter_cons_of_pos (by rw [hm];rfl)];exact h4
theorem acT {go:Value→Value→Nat→Bool}:∀{l:List (Value×Value×Nat)},wF go l=true→∀x∈l,go x.1 x.2.1 x.2.2=true
 | [],_,x,hx=>by cases hx
 | [(a,v,n)],h,x,hx=>by
  rcases List.mem_cons.1 hx with rfl | hx
  · exact h
  · cases hx
 | (a,v,n)::y::l,h,x,hx=>by
  obtain⟨h1,h2⟩:=cI (show iff (go a v n) (wF go (y::l))=true from h)
  rcases List.mem_cons.1 hx with rfl | hx
  · exact h1
  · exact acT h2 x hx
theorem ER.filter {φ:aO}{p:Nat→Bool}:∀{l:List (Value×Value×Nat)}{l':List MapEntry},ER φ l l'→ER φ (l.filter fun e=>p e.2.2) (l'.filter fun e=>p e.born)
 | _,_,.nil=>.nil
 | _,_,.cons a v b e l l' h1 h2 h3 h4=>by
  have ih:=ER.filter (p:=p) h4
  cases hp:p b with
  | true =>
   rw [List.filter_cons_of_pos (by simpa using hp),List.filter_cons_of_pos (by rw [h3];exact hp)]
   exact .cons _ _ _ _ _ _ h1 h2 h3 ih
  | false =>
   rw [List.filter_cons_of_neg (by simpa using hp),List.filter_cons_of_neg (by rw [h3];simpa using hp)]
   exact ih
theorem ER.mem {φ:aO}:∀{l:List (Value×Value×Nat)}{l':List MapEntry},ER φ l l'→∀e∈l',∃x∈l,VR φ x.1 e.key∧VR φ x.2.1 e.val∧e.born=x.2.2
 | _,_,.nil,e,he=>by cases he
 | _,_,.cons a v b e l l' h1 h2 h3 h4,e',he=>by
  rcases List.mem_cons.1 he with rfl | he
  · exact⟨_,.head _,h1,h2,h3⟩
  · obtain⟨x,q1,q2⟩:=ER.mem h4 e' he
    exact⟨x,.tail _ q1,q2⟩
theorem mapOf (H:HR P w0 φ h w){r r':Nat}{es:List (Value×Value×Nat)}{cl:Nat}(hf:φ r≠none) (hr:∀b d n,φ r=some (.live b d n)→r'=b) (ho:h.ob.get r=some (.map es cl)):∃dz,w.heap[r']? =some (.map dz cl)∧ER φ es dz.toList:=by
 obtain⟨b,d,n,o',m1,m2,m3,m4⟩:=H.live hf ho
 obtain rfl:=hr b d n m1
 cases m3 with
 | map _ _ _ dz _ he=>exact⟨dz,m2,he⟩
theorem akf {x:Operand}{t kt et:TypeId}(ho:o.op= .range t x) (hu:P.underlying t=some (.map kt et)) (H:HR P w0 φ h w) (hv:LR φ vs ([x].map ρ)) (e:abJ vs h k=true):PR P w0 φ h ((execOp ρ o).run P w) fun v h'=>k v h'=true:=by
 obtain⟨p,ar,e1⟩:=fy e;clear e;subst ar;have e:=e1;clear e1
 obtain⟨p',hp,hr⟩:=hv.one
 simp at hp;subst hp
 rcases Kq e with⟨ar,e1⟩ | ⟨r,ar,e1⟩<;>(clear e;subst ar)
 · obtain⟨bj,h1,h2⟩:=wi e1
   obtain⟨g1,g2⟩:=H.newAt (f:=h.nx) (o:=.gA none 0 [] 0) (o':=.mapIter none 0 #[] 0) (d:=0) (n:=0) (h':=⟨h.nx+1,bj⟩) (H.fresh _ (Nat.le_refl _)) h1.1 (fun g hg _=>h1.2 g hg) (fun g hg=>H.fresh g (by simp only at hg;omega)) (fun g hg=>by rw [h1.2 g (by simp only at hg;omega)];exact H.top g (by simp only at hg;omega)) (by simp) _ (Nat.le_refl _)
    (.gA _ none none _ _ _ (fun _=>rfl) (fun r hr=>by cases hr))
   refine⟨_,_,_,_,_,.inl ?_,h2,g2,by simp,PR.BN,g1⟩
   simp only [execOp,ho,hr.RT]
   simp [run_range_nilMap w t kt et hu]
 · obtain⟨r',hx,hf,uS⟩:=hr.Kr
   obtain⟨es,cl,h3,e2⟩:=yX e1
   obtain⟨dz,m1,m2⟩:=mapOf H hf uS h3
   obtain⟨bj,h1,h2⟩:=wi e2
   obtain⟨g1,g2⟩:=H.newAt (f:=h.nx) (o:=.gA (some r) cl [] cl) (o':=.mapIter (some r') cl #[] cl) (d:=0) (n:=0) (h':=⟨h.nx+1,bj⟩) (H.fresh _ (Nat.le_refl _)) h1.1 (fun g hg _=>h1.2 g hg) (fun g hg=>H.fresh g (by simp only at hg;omega)) (fun g hg=>by rw [h1.2 g (by simp only at hg;omega)];exact H.top g (by simp only at hg;omega)) (by simp) _ (Nat.le_refl _)
    (.gA _ _ _ _ _ _ (fun h=>by cases h) (fun r0 qZ=>by cases qZ;exact⟨r',rfl,hf,uS⟩))
   refine⟨_,_,_,_,_,.inl ?_,h2,g2,by simp,PR.BN,g1⟩
   simp only [execOp,ho,hx]
   simp [run_range_map w t kt et r' dz cl hu m1]
theorem acU (H:HR P w0 φ h w){a a':Addr}{m:Option Nat}{since last:Nat}{seen:List Nat}(hf:φ a.block≠none) (dH:AtR φ a a') (h0:a.off=0) (ho:h.ob.get a.block=some (.gA m since seen last)) :
 ∃b d n m',φ a.block=some (.live b d n)∧a'=⟨b,0,none⟩∧d=0∧w.heap[b]? =some (.mapIter m' since seen.toArray last)∧w0.heap.size≤b∧(m=none→m'=none)∧∀r,m=some r→∃r',m'=some r'∧φ r≠none∧∀b d n,φ r=some (.live b d n)→r'=b:=by
 obtain⟨b,d,n,o',m1,m2,m3,m4⟩:=H.live hf ho
 obtain⟨q1,q2,q3⟩:=dH b d n m1
 cases m3 with
 | gA _ _ m' _ _ _ z0 z1 =>
  refine⟨b,0,n,m',m1, ?_,rfl,m2,m4 rfl,z0,z1⟩
  cases a';simp_all
theorem akg {x:Operand}(ho:o.op= .next x false) (H:HR P w0 φ h w) (hv:LR φ vs ([x].map ρ)) (e:abK vs h k=true):PR P w0 φ h ((execOp ρ o).run P w) fun v h'=>k v h'=true:=by
  obtain⟨p,ar,e1⟩:=fy e;clear e;subst ar;have e:=e1;clear e1
  obtain⟨p',hp,hr⟩:=hv.one
  simp at hp;subst hp
  obtain⟨a,ar,e1⟩:=mO e;clear e;subst ar;have e:=e1;clear e1
  obtain⟨a',hx,hs,dH⟩:=hr.lB
  obtain⟨h0,e1⟩:=cI e
  have h0:=Nat.eq_of_beq_eq_true h0
  obtain⟨m,since,seen,last,g1,g2⟩:=acH e1
  obtain⟨b,d,n,m',z1,rfl,rfl,z2,z3,z4,z5⟩:=acU H hs dH h0 g1
  cases m with
  | none =>
    obtain rfl:=z4 rfl
    refine .same H ?_ (.iy _ _ (.cons _ _ _ _ (.bool false) .nil)) g2
    simp only [execOp,ho,hx]
    simp only [Instr.next,getObj,Sem.run_bind,Sem.run,z2,Result.andThen]
    rfl
  | some r =>
    obtain⟨r',rfl,hf,uS⟩:=z5 r rfl
    obtain⟨es,cl,h3,e2⟩:=yX (show lF h r _=true from g2)
    obtain⟨dz,m1,m2⟩:=mapOf H hf uS h3
    obtain⟨e3,e4⟩:=cI e2
    rw [Bool.and_eq_true]at e3
    obtain rfl:cl=since:=Nat.eq_of_beq_eq_true e3.1
    obtain rfl:last=cl:=Nat.eq_of_beq_eq_true e3.2
    obtain⟨u1,u2⟩:=TW _ e4
    have hold:∀x∈dz.toList,x.born<last:=fun x hx=>by
      obtain⟨y,y1,_,_,y2⟩:=m2.mem x hx
      rw [y2];exact u1 y y1
    have FG:ER φ (es.filter fun e=> !seen.contains e.2.2) (leftOf dz seen.toArray).toList:=by
      have:=ER.filter (p:=fun n=> !seen.contains n) m2
      unfold leftOf
      rw [Array.toList_filter]
      simpa using this
    rcases run_next_at (P:=P) w o.type b r' last last seen.toArray dz last z2 m1 hold (Nat.le_refl _)with⟨q1,q2⟩ | ⟨en,q1,w1,q2,q3⟩
    · have Fa:(es.filter fun e=> !seen.contains e.2.2)=[]:=by
        have:(leftOf dz seen.toArray).toList=[]:=by simpa using q1
        rw [this]at FG
        revert FG
        generalize (es.filter fun e=> !seen.contains e.2.2)=L
        intro FG
        cases FG;rfl
      rw [Fa]at u2
      obtain⟨bj,k1,k2⟩:=o8 (show iK h a.block none _=true from u2)
      refine⟨_,w,_,_,_,.inl ?_,k2,aO.KO φ _ _ hs,Nat.le_refl _,.iy _ _ (.cons _ _ _ _ (.bool false) .nil),H.kill (h':=⟨h.nx,bj⟩) hs k1 rfl⟩
      simp only [execOp,ho,hx]
      simp [q2]
    · obtain⟨y,y1,y2,y3,y4⟩:=FG.mem en q1
      have gz:wF (La h a.block r last seen k) (es.filter fun e=> !seen.contains e.2.2)=true:=by
        revert u2
        cases (es.filter fun e=> !seen.contains e.2.2)with
        | nil=>intro _;rfl
        | cons x l=>intro h;exact h
      have h5:=acS _ (show Fm seen y.2.2 _=true from acT gz y y1)
      obtain⟨bj,k1,k2⟩:=o8 h5
      have H1:HR P w0 φ h w1:=by rcases q2 with rfl | rfl;exact H;exact H.drew
      have hh:w1.heap=w.heap:=by rcases q2 with rfl | rfl<;>rfl
      have bJ:b<w1.heap.size:=by rw [hh];exact(Array.getElem?_eq_some_iff.1 z2).1
      refine⟨_,ChangeMaps.setBlock w1 b (.mapIter (some r') last (seen.toArray.push en.born) last),_,_,φ,.inl ?_,k2,Ext.refl _ _,Nat.le_refl _,.iy _ _ (.cons _ _ _ _ (.bool true) (.cons _ _ _ _ y2 (.cons _ _ _ _ y3 .nil))), ?_⟩
      · simp only [execOp,ho,hx]
        simp [q3]
      · refine H1.kE (h':=⟨h.nx,bj⟩) (o':=.mapIter (some r') last (seen.toArray.push en.born) last) z1 k1 rfl ?_ z3 (by simp [ChangeMaps.setBlock,bJ]) (fun k hk=>by simp [ChangeMaps.setBlock,Ne.symm hk]) (by simp [ChangeMaps.setBlock]) rfl rfl rfl
        have:seen.toArray.push en.born=(seen++[y.2.2]).toArray:=by simp [y4]
        rw [this]
        exact .gA _ _ _ _ _ _ (fun h=>by cases h) (fun r0 qZ=>by cases qZ;exact⟨r',rfl,hf,uS⟩)
theorem acV:∀{l:List Nat}{k:Nat→Bool},zn l k=true→∃n,l.getLast? =some n∧k n=true
 | [],k,h=>by cases h
 | [n],k,h=>⟨n,rfl,h⟩
 | _::y::l,k,h=>by
  obtain⟨n,h1,h2⟩:=acV (l:=y::l) (show zn (y::l) k=true from h)
  exact⟨n,by rw [List.getLast?_cons_cons];exact h1,h2⟩
theorem acW {n:Nat}{k:Value→Value→Bool}:∀{es:List (Value×Value×Nat)}{dz:List MapEntry},ER φ es dz→wG es n k=true→∃a v e,dz.find? (·.born==n)=some e∧VR φ a e.key∧VR φ v e.val∧k a v=true
 | _,_,.nil,h=>by cases h
 | _,_,.cons a v b e l l' h1 h2 h3 h4,h=>by
  have h':(bif Nat.beq b n then k a v else wG l n k)=true:=h
  by_cases hb:b=n
  · subst hb
    rw [ma rfl,cond_true]at h'
    exact⟨a,v,e,by simp [h3],h1,h2,h'⟩
  · rw [gg hb,cond_false]at h'
    obtain⟨a',v',e',q1,q2⟩:=acW h4 h'
    refine⟨a',v',e', ?_,q2⟩
    rw [List.find?_cons_of_neg (by rw [h3];simpa using hb)]
    exact q1
theorem akh {x:Operand}(ho:o.op= .entry x) (H:HR P w0 φ h w) (hv:LR φ vs ([x].map ρ)) (e:abL vs h k=true):PR P w0 φ h ((execOp ρ o).run P w) fun v h'=>k v h'=true:=by
 obtain⟨p,ar,e1⟩:=fy e;clear e;subst ar;have e:=e1;clear e1
 obtain⟨p',hp,hr⟩:=hv.one
 simp at hp;subst hp
 obtain⟨a,ar,e1⟩:=mO e;clear e;subst ar;have e:=e1;clear e1
 obtain⟨a',hx,hs,dH⟩:=hr.lB
 obtain⟨h0,e1⟩:=cI e
 have h0:=Nat.eq_of_beq_eq_true h0
 obtain⟨m,since,seen,last,g1,g2⟩:=acH e1
 obtain⟨b,d,n,m',z1,rfl,rfl,z2,z3,z4,z5⟩:=acU H hs dH h0 g1
 cases m with
 | none=>cases g2
 | some r =>
  obtain⟨r',rfl,hf,uS⟩:=z5 r rfl
  obtain⟨es,cl,h3,e2⟩:=yX (show lF h r _=true from g2)
  obtain⟨dz,m1,m2⟩:=mapOf H hf uS h3
  obtain⟨e3,e4⟩:=cI e2
  obtain rfl:cl=last:=Nat.eq_of_beq_eq_true e3
  obtain⟨st,s1,e5⟩:=acV e4
  obtain⟨ka,va,en,s2,s3,s4,e6⟩:=acW m2 e5
  refine .same H (v':=.tuple #[en.key,en.val]) ?_ (.iy _ _ (.cons _ _ _ _ s3 (.cons _ _ _ _ s4 .nil))) e6
  have ama:dz.find? (·.born==st)=some en:=by rw [←Array.find?_toList];exact s2
  have q7:seen.toArray.back? =some st:=by simpa using s1
  simp only [execOp,ho,hx]
  simp only [Instr.entry,getObj,Sem.run_bind,Sem.run,z2,m1,Result.andThen,q7,bne_self_eq_false,Bool.false_eq_true,if_false,ama]
  rfl
end
end Go.Ve
namespace Go.Ve
open Go.RowKit
section
variable {P:Program}{w0 w:World}{φ:aO}{h:AH}{ρ:Operand→Value}{o:Oper}{vs:List Value}{k:KV}
theorem aax (hρ:∀g,ρ (.func g)= .func (.func g) #[] #[]){p:Prim}{xs:List Operand}(hc:nM P o=some (.aU p,xs)) (H:HR P w0 φ h w) (hv:LR φ vs (xs.map ρ)) (e:p.ev vs h k=true):PR P w0 φ h ((execOp ρ o).run P w) fun v h'=>k v h'=true:=by
 cases aY:o.op<;>simp only [nM,aY]at hc
 case move x=>cases hc;exact aay (.inl aY) H hv e
 case assign x=>cases hc;exact aay (.inr aY) H hv e
 case pick c a b=>cases hc;exact ajL aY H hv e
 case alloc ty=>split at hc<;>cases hc;exact ajM aY (by assumption) H e
 case box ty x=>cases hc;exact ajN aY H hv e
 case build t parts =>
  split at hc
  · rename_i fs z hu hz
    split at hc
    · rename_i gz
      split at hc
      · rename_i ps gL
        cases hc
        exact ajI aY hu hz (fun f hf=>List.all_eq_true.1 gz f hf) gL H hv e
      · cases hc
    · cases hc
  · rename_i n e' z hu hz
    split at hc
    · rename_i s hs
      cases hc
      exact ajJ aY hu hz hs H hv e
    · cases hc
  · cases hc
 case buildSlice t len parts =>
  split at hc
  · rename_i e' hu
    split at hc
    · rename_i s z hs hz
      split at hc
      · rename_i hg
        cases hc
        simp only [Bool.and_eq_true,decide_eq_true_eq,beq_iff_eq]at hg
        exact ajK aY hu hz hs hg.1.1 hg.1.2 hg.2 H hv e
      · cases hc
    · cases hc
  · cases hc
 case load t a =>
  split at hc
  · rename_i d s hu hs
    split at hc
    · cases hc;exact ajO aY hu (by assumption) hs H hv e
    · rename_i hd;cases hc;exact ajP aY hu (by simpa using hd) H hv e
  · cases hc
 case store t a v =>
  split at hc
  · cases hc;exact ajQ aY (by assumption) H hv e
  · cases hc
 case nilCheck x=>cases hc;exact ajR aY H hv e
 case fieldAddr s x f =>
  split at hc
  · rename_i fs hu
    split at hc
    · rename_i fl hf
      split at hc
      · rename_i sz hs
        split at hc
        · cases hc
        · rename_i dr;cases hc;exact ajS aY hu hf hs dr H hv e
      · cases hc
    · cases hc
  · cases hc
 case field s x f =>
  split at hc
  · rename_i fs hu
    split at hc
    · rename_i fl hf
      split at hc
      · rename_i d sz hd hs
        split at hc
        · cases hc;exact ajT aY hu hf hd (by assumption) hs H hv e
        · rename_i hn;cases hc;exact ajU aY hu hf hd (by simpa using hn) H hv e
      · cases hc
    · cases hc
  · cases hc
 case indexAddr t x i =>
  split at hc
  · split at hc
    · cases hc;exact ajV aY (by assumption) (by assumption) H hv e
    · cases hc
  · split at hc
    · cases hc;exact ajW aY (by assumption) (by assumption) H hv e
    · cases hc
  · cases hc
 case index t x i =>
  split at hc
  · rename_i len e' hu
    split at hc
    · rename_i d s hd hs
      split at hc
      · cases hc;exact ajX aY hu hd (by assumption) hs H hv e
      · rename_i hn
        split at hc
        · rename_i h1;subst h1;cases hc;exact ajY aY hu hd (by simpa using hn) hs H hv e
        · cases hc
    · cases hc
  · cases hc;exact ajZ aY (by assumption) H hv e
  · cases hc
 case slice t x lo hi mx =>
  split at hc
  · split at hc
    · split at hc
      · rename_i hg
        cases hc
        simp only [Bool.and_eq_true,decide_eq_true_eq,Bool.or_eq_true,Bool.not_eq_true']at hg
        exact aj0 aY (by assumption) (by assumption) hg.1 (fun hm=>by rcases hg.2 with h2 | h2<;>simp_all) H hv e
      · cases hc
    · cases hc
  · split at hc
    · split at hc
      · rename_i hg
        cases hc
        simp only [Bool.or_eq_true,Bool.not_eq_true']at hg
        exact aj1 aY (by assumption) (by assumption) (fun hm=>by rcases hg with h2 | h2<;>simp_all) H hv e
      · cases hc
    · cases hc
  · split at hc
    · cases hc
    · rename_i hmx
      cases hc
      have Ez:mx=none:=by cases mx<;>simp_all
      subst Ez
      exact aj2 aY (by assumption) H hv e
  · cases hc
 case binOp op t x y u =>
  split at hc
  · cases hc;exact aj3 aY H hv e
  · split at hc<;>cases hc<;>first | exact aj4 aY H hv e | exact aj5 aY H hv e | exact aj6 aY H hv e
  · rename_i hu
    split at hc<;>cases hc
    · exact aaz aY (.inl ⟨rfl,rfl⟩) hu H hv e
    · exact aaz aY (.inr ⟨rfl,rfl⟩) hu H hv e
  · rename_i fs hu
    split at hc
    · rename_i hg
      simp only [Bool.and_eq_true,Bool.not_eq_true']at hg
      split at hc<;>cases hc
      · exact aaA aY (.inl ⟨rfl,rfl⟩) hu hg.1 hg.2 (by assumption) H hv e
      · exact aaA aY (.inr ⟨rfl,rfl⟩) hu hg.1 hg.2 (by assumption) H hv e
    · cases hc
  · rename_i hu
    split at hc
    · split at hc<;>cases hc
      · exact qY aY (.inl ⟨rfl,rfl⟩) hu rfl (fun h=>by cases h) H hv e
      · exact qY aY (.inr ⟨rfl,rfl⟩) hu rfl (fun h=>by cases h) H hv e
    · split at hc<;>cases hc
      · exact aaB aY (.inl ⟨rfl,rfl⟩) hu (by assumption) H hv e
      · exact aaB aY (.inr ⟨rfl,rfl⟩) hu (by assumption) H hv e
  · rename_i hu
    split at hc<;>cases hc
    · exact qY aY (.inl ⟨rfl,rfl⟩) hu rfl (fun h=>by cases h) H hv e
    · exact qY aY (.inr ⟨rfl,rfl⟩) hu rfl (fun h=>by cases h) H hv e
  · rename_i hu
    split at hc<;>cases hc
    · exact qY aY (.inl ⟨rfl,rfl⟩) hu rfl (fun h=>by cases h) H hv e
    · exact qY aY (.inr ⟨rfl,rfl⟩) hu rfl (fun h=>by cases h) H hv e
  · rename_i hu
    split at hc<;>cases hc
    · exact qY aY (.inl ⟨rfl,rfl⟩) hu rfl (fun h=>by cases h) H hv e
    · exact qY aY (.inr ⟨rfl,rfl⟩) hu rfl (fun h=>by cases h) H hv e
  · rename_i hu
    split at hc
    · rename_i hcn
      split at hc<;>cases hc
      · exact qY aY (.inl ⟨rfl,rfl⟩) hu rfl (fun _=>hcn) H hv e
      · exact qY aY (.inr ⟨rfl,rfl⟩) hu rfl (fun _=>hcn) H hv e
    · cases hc
  · cases hc
 case unOp op t x =>
  split at hc<;>cases hc
  · exact aj7 aY H hv e
  · exact aj8 aY H hv e
 case convert s t x =>
  split at hc
  · cases hc;exact aj9 aY (by assumption) (by assumption) H hv e
  · split at hc
    · split at hc
      · cases hc
      · cases hc;exact aka aY (by assumption) (by assumption) (by assumption) (by assumption) H hv e
    · cases hc
  · split at hc
    · cases hc;exact akb aY (by assumption) (by assumption) (by assumption) H hv e
    · cases hc
  · cases hc
 case makeInterface t x =>
  split at hc
  · cases hc
  · cases hc
  · rename_i hn1 BQ
    cases hc
    refine akc aY ?_ H hv e
    unfold Program.concrete
    cases hu:P.underlying t with
    | none=>exact absurd hu BQ
    | some d=>cases d<;>first | rfl | exact absurd hu (hn1 _)
 case makeFunc fn first cr =>
  split at hc<;>cases hc
  · exact aaC aY (fun _=>.func _) H hv e
  · exact aaC aY (fun _=>.method _) H hv e
 case makeMap t r =>
  split at hc<;>cases hc
  exact akd aY H e
 case makeSlice t l c =>
  split at hc
  · rename_i e' hu
    split at hc
    · rename_i i z hi hz
      split at hc
      · rename_i hg
        cases hc
        simp only [Bool.and_eq_true,decide_eq_true_eq,beq_iff_eq]at hg
        obtain⟨i2,gJ,EA,gB⟩:=pX hz
        rw [hi]at gJ;cases gJ
        exact ajy aY hu hi EA gB hg.1.2 hg.2 hg.1.1 H hv e
      · cases hc
    · cases hc
  · cases hc
 case lookup t m x ok =>
  split at hc
  · rename_i hu
    split at hc
    · cases hc;exact ajz aY hu (by assumption) (by assumption) H hv e
    · cases hc
  · cases hc
 case mapUpdate t m x v =>
  split at hc
  · rename_i hu
    split at hc
    · cases hc;exact aaj (.inl aY) hu (by assumption) H hv e
    · cases hc
  · cases hc
 case insert t m x v =>
  split at hc
  · rename_i hu
    split at hc
    · cases hc;exact aaj (.inr aY) hu (by assumption) H hv e
    · cases hc
  · cases hc
 case extract x i=>cases hc;exact ake aY H hv e
 case typeAssert x xt t ok =>
  split at hc
  · cases hc
  · rename_i d z hni hu hz
    split at hc
    · rename_i gB
      subst gB
      cases hc
      exact ajD aY hu (fun m hm=>hni m hm) hz H hv e
    · cases hc
  · cases hc
 case range t x =>
  split at hc<;>cases hc
  · exact ajE aY (by assumption) H hv e
  · exact akf aY (by assumption) H hv e
 case next x s =>
  split at hc
  · rename_i hs;subst hs;cases hc;exact ajF aY H hv e
  · rename_i hs;cases hc;exact akg (by rw [aY];simpa using hs) H hv e
 case entry x=>cases hc;exact akh aY H hv e
 case call c =>
  have BR:∀{x:Operand},c.args.toList=[x]→c.args= #[x]:=fun h=>by apply Array.ext';simpa using h
  have BS:∀{x y:Operand},c.args.toList=[x,y]→c.args= #[x,y]:=fun h=>by apply Array.ext';simpa using h
  split at hc
  · rename_i g ez
    split at hc
    · rename_i fn hf
      split at hc
      · cases hc
      · split at hc
        · rename_i hb
          rw [Bool.and_eq_true,Option.isNone_iff_eq_none]at hb
          have hx : ∀ {e : Array Value → Sem Value}, (fn.name == "runtime.NumGoroutine") = false → Extern.find fn = some e → ∀ v, (e (c.args.map ρ)).run P w = .ok v w → (execOp ρ o).run P w = .ok (.value v) w := fun h1 h2 v h3 => aki aY ez (hρ g) hf h1 (Option.isNone_iff_eq_none.2 hb.1) (Option.isNone_iff_eq_none.1 hb.2) h2 h3
          split at hc
          · rename_i hn
            have hn : fn.name = "internal/abi.NoEscape" := by simpa using hn
            cases hc;exact akj (hx (by rw [hn];decide) (akk hn)) rfl H hv e
          · split at hc
            · rename_i hn
              have hn : fn.name = "internal/bytealg.CountString" := by simpa using hn
              cases hc;exact akl (hx (by rw [hn];decide) (akm hn)) rfl H hv e
            · split at hc
              · rename_i hn
                have hn : fn.name = "internal/bytealg.IndexByteString" := by simpa using hn
                cases hc;exact akn (hx (by rw [hn];decide) (ako hn)) rfl H hv e
              · cases hc
        · cases hc
    · cases hc
  · cases hc
  · cases hc
  · rename_i b ez
    split at hc
    · split at hc
      · rename_i hx ht
        split at hc<;>cases hc
        · exact akp aY ez (BR hx) ht (by assumption) H hv e
        · exact akq aY ez (BR hx) ht (by assumption) H hv e
        · exact akr aY ez (BR hx) ht (by assumption) H hv e
        · exact aks aY ez (BR hx) ht (by assumption) H e
      · cases hc
    · split at hc
      · rename_i hx ht
        split at hc<;>cases hc
        exact akt aY ez (BR hx) ht (by assumption) H hv e
      · cases hc
    · split at hc
      · rename_i hx ht hu
        split at hc
        · rename_i EB mg
          split at hc
          · rename_i i z hi hz
            split at hc
            · rename_i hg
              cases hc
              simp only [Bool.and_eq_true,decide_eq_true_eq,beq_iff_eq]at hg
              obtain⟨i2,gJ,EA,gB⟩:=pX hz
              rw [hi]at gJ;cases gJ
              exact aku aY ez (BS hx) ht hu EB mg hi EA hg.1.2 hg.2 hg.1.1 H hv e
            · cases hc
          · cases hc
        · rename_i EB mg
          split at hc
          · rename_i i z hi hz
            split at hc
            · rename_i hg
              cases hc
              simp only [Bool.and_eq_true,decide_eq_true_eq,beq_iff_eq]at hg
              obtain⟨i2,gJ,EA,gB⟩:=pX hz
              rw [hi]at gJ;cases gJ
              exact akv aY ez (BS hx) ht hu EB mg hi EA hg.1.2 (by rw [hg.2,hg.1.1]) hg.1.1 H hv e
            · cases hc
          · cases hc
        · cases hc
      · cases hc
    · split at hc
      · rename_i hx ht
        split at hc
        · rename_i EB
          split at hc
          · rename_i sz hs
            cases hc
            obtain⟨i,hi,rfl⟩:=mP hs
            exact ajs aY ez (BS hx) ht EB hi H hv e
          · cases hc
        · cases hc
      · cases hc
    · split at hc
      · rename_i hx;cases hc;exact ajq aY ez (BS hx) H hv e
      · cases hc
    · split at hc
      · rename_i hx;cases hc;exact ajr aY ez (BS hx) H hv e
      · cases hc
    · split at hc<;>cases hc
    · split at hc
      · rename_i hx;cases hc;exact akw aY ez (BR hx) H hv e
      · cases hc
    · split at hc
      · rename_i hx ht
        split at hc
        · rename_i hu
          split at hc
          · cases hc;exact akx aY ez (BS hx) ht hu (by assumption) H hv e
          · cases hc
        · cases hc
      · cases hc
    · split at hc<;>cases hc
    · cases hc
 all_goals first
  | cases hc
  | (split at hc<;>cases hc)
end
end Go.Ve
namespace Go.Ve
open Go.RowKit
def ux (φ:aO) (rc:Rc) (b:Frame) (cs0 cs:List Frame):Prop:=match rc with
 | .off=>cs=cs0∧(b.kind= .normal∨(b.kind= .deferred∧∃c rest,cs0=c::rest∧c.mode= .returning))
 | .can v=>cs=cs0∧b.kind= .deferred∧∃c rest v',cs0=c::rest∧c.mode= .panicking [{v:=v',recovered:=false}]∧VR φ v v'
 | .mQ=>b.kind= .deferred∧∃c rest v',cs0=c::rest∧c.mode= .panicking [{v:=v',recovered:=false}]∧cs={c with mode:=.panicking [{v:=v',recovered:=true}]}::rest
def nN (φ:aO) (e:Env) (b:Frame):Prop:=b.fn=e.fn∧match e.wo with
 | none=>b.roundOf=none
 | some l=>b.kind= .normal∧∃l',b.roundOf=some l'∧φ l≠none∧∀bl d n,φ l=some (.live bl d n)→l'=bl
structure SQ (P:Program) (w0:World) (φ:aO) (s:St) (b:Frame) (cs0 cs:List Frame) (a:Act) (w:World):Prop where
 df:DL φ s.df a.defers
 rc:ux φ s.rc b cs0 cs
 heap:HR P w0 φ s.h w
structure SR (P:Program) (w0:World) (φ:aO) (e:Env) (s:St) (b:Frame) (cs0 cs:List Frame) (a:Act) (w:World):Prop extends SQ P w0 φ s b cs0 cs a w where
 tm:TR φ s.tm e.nt a.tmps
theorem ux.ext {N:Nat}{φ φ':aO}(h:Ext N φ φ'){rc:Rc}{b:Frame}{cs0 cs:List Frame}(hr:ux φ rc b cs0 cs):ux φ' rc b cs0 cs:=by
 cases rc with
 | off=>exact hr
 | can v=>obtain⟨h1,h2,c,rest,v',h3,h4,h5⟩:=hr;exact⟨h1,h2,c,rest,v',h3,h4,VR.ext h h5⟩
 | mQ=>exact hr
theorem nN.ext {N:Nat}{φ φ':aO}(h:Ext N φ φ'){e:Env}{b:Frame}(he:nN φ e b):nN φ' e b:=by
 obtain⟨h1,h2⟩:=he
 refine⟨h1, ?_⟩
 cases hr:e.wo with
 | none=>rw [hr]at h2;exact h2
 | some l =>
  rw [hr]at h2
  obtain⟨h3,l',h4,h5,h6⟩:=h2
  exact⟨h3,l',h4,h.dq h5,fun bl d n hl=>h6 bl d n (h.live h5 hl)⟩
section
variable {P:Program}{b:Frame}{a:Act}{k:List Item}{cs:List Frame}{w:World}{ops:Array Oper}{i:Nat}{rest:List Nat}{o:Oper}
theorem RZ (ho:ops[i]? =some o) (hw:Region.wanted o (yielded ops a.tmps)=true){v:Value}{w':World}(hr:(o.semAt b.roundOf a.eval).run P w= .ok (.value v) w') :
 step P (lone (b.atR a (.inRegion ops (i::rest)::k)) cs w)= .next (lone (b.atR (a.put o.dst v) (.inRegion ops rest::k)) cs w'):=by
 have hf:=Frame.finish_atR b a ops i rest k v
 rw [ho]at hf
 rw [show a.put o.dst v=a.put ((some o).bind (·.dst)) v from rfl,←hf]
 exact step_lone_go (by rw [stepGR_op ho hw];simp [stepG.apply,hr])
theorem aaD (ho:ops[i]? =some o) (hw:Region.wanted o (yielded ops a.tmps)=true){w':World}(hr:(o.semAt b.roundOf a.eval).run P w= .ok .skip w') :
 step P (lone (b.atR a (.inRegion ops (i::rest)::k)) cs w)= .next (lone (b.atR (a.put o.dst undef) (.inRegion ops rest::k)) cs w'):=by
 have hf:=Frame.finish_atR b a ops i rest k undef
 rw [ho]at hf
 rw [show a.put o.dst undef=a.put ((some o).bind (·.dst)) undef from rfl,←hf]
 exact step_lone_go (by rw [stepGR_op ho hw];simp [stepG.apply,hr])
theorem aky (ho:ops[i]? =some o) (hw:Region.wanted o (yielded ops a.tmps)=true){f:FuncId}{args:Array Value}{w':World}(hr:(o.semAt b.roundOf a.eval).run P w= .ok (.enter f args) w') :
 step P (lone (b.atR a (.inRegion ops (i::rest)::k)) cs w)= .next (lone (Frame.enter P f args .normal) (b.atR a (.inRegion ops (i::rest)::k)::cs) w') :=
 step_lone_go (by rw [stepGR_op ho hw];simp [stepG.apply,hr,Frame.atR])
theorem akz (ho:ops[i]? =some o) (hw:Region.wanted o (yielded ops a.tmps)=true){l:Nat}{f:FuncId}{tmps:Array Value}{as bd:Code}{w':World}(hr:(o.semAt b.roundOf a.eval).run P w= .ok (.round l f tmps as bd) w') :
 step P (lone (b.atR a (.inRegion ops (i::rest)::k)) cs w)= .next (lone (Frame.round l f tmps as bd .normal) (b.atR a (.inRegion ops (i::rest)::k)::cs) w') :=
 step_lone_go (by rw [stepGR_op ho hw];simp [stepG.apply,hr,Frame.atR])
theorem akA (ho:ops[i]? =some o) (hw:Region.wanted o (yielded ops a.tmps)=true){d:Deferred}{w':World}(hr:(o.semAt b.roundOf a.eval).run P w= .ok (.defer d) w') :
 step P (lone (b.atR a (.inRegion ops (i::rest)::k)) cs w)= .next (lone (b.atR (({a with defers:=d::a.defers}:Act).put o.dst undef) (.inRegion ops rest::k)) cs w'):=by
 have hf:=Frame.finish_atR b {a with defers:=d::a.defers} ops i rest k undef
 rw [ho]at hf
 rw [show({a with defers:=d::a.defers}:Act).put o.dst undef=({a with defers:=d::a.defers}:Act).put ((some o).bind (·.dst)) undef from rfl,←hf]
 exact step_lone_go (by rw [stepGR_op ho hw];simp [stepG.apply,hr,Frame.atR])
theorem akB (ho:ops[i]? =some o) (hw:Region.wanted o (yielded ops a.tmps)=true){v:Value}{w':World}(hr:(o.semAt b.roundOf a.eval).run P w= .halt (.panic v) w') :
 step P (lone (b.atR a (.inRegion ops (i::rest)::k)) cs w)= .next (lone {b.atR a (.inRegion ops (i::rest)::k)with mode:=.panicking [{v,recovered:=false}]} cs w'):=by
 rw [←Frame.raise_atR]
 exact step_lone_go (by rw [stepGR_op ho hw];simp [stepG.apply,hr])
theorem aaE (hb:b.roundOf=none) (ho:ops[i]? =some o) (hw:Region.wanted o (yielded ops a.tmps)=true){w':World}(hr:(o.semAt b.roundOf a.eval).run P w= .ok .recover w'){v:Value}{cY:List Frame}
 (ht:(tryRecover (b.atR a (.inRegion ops (i::rest)::k)) cs=some (v,cY))∨(tryRecover (b.atR a (.inRegion ops (i::rest)::k)) cs=none∧v= .nilIface∧cY=cs)) :
 step P (lone (b.atR a (.inRegion ops (i::rest)::k)) cs w)= .next (lone (b.atR (a.put o.dst v) (.inRegion ops rest::k)) cY w'):=by
 have hf:=Frame.finish_atR b a ops i rest k v
 rw [ho]at hf
 rw [show a.put o.dst v=a.put ((some o).bind (·.dst)) v from rfl,←hf]
 refine step_lone_go ?_
 rw [stepGR_op ho hw]
 have cG:(b.atR a (.inRegion ops (i::rest)::k)).roundOf=none:=hb
 rcases ht with ht | ⟨ht,rfl,rfl⟩
 · simp [stepG.apply,hr,cG,ht]
 · simp [stepG.apply,hr,cG,ht]
end
def EC (φ:aO) (r:CR) (E:Ending):Prop:=match r with
 | .ret v=>∃v',E= .returned v'∧VR φ v v'
 | .aT v=>∃v',E= .panicked [{v:=v',recovered:=false}]∧VR φ v v'
def Can (P : Program) (f : FuncId) : Prop := ∃ fn, P.funcs[f]? = some fn ∧ (fn.name == "runtime.NumGoroutine") = false ∧ fn.body.isNone = false
def jk (P:Program) (w0:World) (f:FuncId) (args:List Value) (h:AH) (k:CR→AH→Bool):Prop :=
 Can P f∧∀(φ:aO) (args':Array Value) (w:World),LR φ args args'.toList→HR P w0 φ h w→Calls P f args' w fun E w'=>∃r h' φ',k r h'=true∧Ext h.nx φ φ'∧h.nx≤h'.nx∧HR P w0 φ' h' w'∧EC φ' r E
def uy (P:Program) (w0:World) (l:Nat) (args:List Value) (h:AH) (k:CR→AH→Bool):Prop :=
 ∀(φ:aO) (args':Array Value) (l':Nat) (w:World),LR φ args args'.toList→φ l≠none→(∀b d n,φ l=some (.live b d n)→l'=b)→HR P w0 φ h w→
  ∃f tmps as bd,(Instr.yield l' args').run P w= .ok (.round l' f tmps as bd) w∧∀(c:Frame) (cs:List Frame),∃v v' h' φ' w',k (.ret v) h'=true∧Ext h.nx φ φ'∧h.nx≤h'.nx∧HR P w0 φ' h' w'∧VR φ' v v'∧
   Steps P (lone (Frame.round l' f tmps as bd .normal) (c::cs) w) (lone (c.finish v') cs w')
def wq (φ:aO) (m:Option Value) (u:FrameMode):Prop:=match m with
 | none=>u= .returning
 | some v=>∃v',u= .panicking [{v:=v',recovered:=false}]∧VR φ v v'
def aaF (φ:aO) (rc:Rc) (c c':Frame):Prop:=match rc with
 | .off=>c'=c∧c.mode= .returning
 | .can v=>c'=c∧∃v',c.mode= .panicking [{v:=v',recovered:=false}]∧VR φ v v'
 | .mQ=>∃v',c.mode= .panicking [{v:=v',recovered:=false}]∧c'={c with mode:=.panicking [{v:=v',recovered:=true}]}
def akC (φ:aO) (rc:Rc) (c:Frame):Prop:=match rc with
 | .off=>c.mode= .returning
 | .can v=>∃v',c.mode= .panicking [{v:=v',recovered:=false}]∧VR φ v v'
 | .mQ=>False
def Ky (P:Program) (w0:World) (f:FuncId) (args:List Value) (rc:Rc) (h:AH) (k:Rc→AH→Bool):Prop :=
 Can P f∧∀(φ:aO) (args':Array Value) (w:World) (c:Frame) (cs:List Frame),LR φ args args'.toList→HR P w0 φ h w→akC φ rc c→
  ∃BT h' φ' w' c' fr v,k BT h'=true∧Ext h.nx φ φ'∧h.nx≤h'.nx∧HR P w0 φ' h' w'∧aaF φ' BT c c'∧
   Steps P (lone (Frame.enter P f args' .deferred) (c::cs) w) (lone fr (c'::cs) w')∧fr.kind= .deferred∧fr.going P w' (.returned v)
def om (P:Program) (w0:World) (ds:List gV) (m:Option Value) (h:AH) (k:Option Value→AH→Bool):Prop :=
 ∀(φ:aO) (fr:Frame) (cs:List Frame) (w:World),DL φ ds fr.defers→wq φ m fr.mode→HR P w0 φ h w→
  ∃m' h' φ' w' u,k m' h'=true∧Ext h.nx φ φ'∧h.nx≤h'.nx∧HR P w0 φ' h' w'∧wq φ' m' u∧Steps P (lone fr cs w) (lone {fr with defers:=[],mode:=u} cs w')
def ED (P:Program) (φ:aO) (m:Machine) (b:Frame) (todo:List Item) (x:AX) (cs:List Frame) (a:Act) (w:World):Prop:=match x with
 | .normal=>Steps P m (lone (b.atR a todo) cs w)
 | .exit id=>∃k1,exitTo id k1=exitTo id todo∧Steps P m (lone (b.atR a (.code (.exit id)::k1)) cs w)
 | .ret=>∃k1,Steps P m (lone (b.atR a (.code .ret::k1)) cs w)
 | .aT v=>∃k1 v',VR φ v v'∧Steps P m (lone {b.atR a k1 with mode:=.panicking [{v:=v',recovered:=false}]} cs w)
def SX (P:Program) (w0:World) (φ:aO) (e:Env) (x:AX) (s:St) (b:Frame) (cs0 cs:List Frame) (a:Act) (w:World):Prop:=match x with
 | .aT _=>SQ P w0 φ s b cs0 cs a w
 | _=>SR P w0 φ e s b cs0 cs a w
def kq (P:Program) (w0:World) (φ:aO) (N:Nat) (e:Env) (b:Frame) (cs0:List Frame) (m:Machine) (todo:List Item) (k:KS):Prop :=
 ∃x s' φ' cY a' w',k x s'=true∧Ext N φ φ'∧N≤s'.h.nx∧SX P w0 φ' e x s' b cs0 cY a' w'∧ED P φ' m b todo x cY a' w'
def R0 (c:Code) (it:Item):Prop:=it= .code c∨∃c',c= .loop c'∧it= .inLoop c'
def EE (P:Program) (w0:World) (c:Code) (e:Env) (s:St) (k:KS):Prop :=
 ∀(φ:aO) (b:Frame) (cs0 cs:List Frame) (a:Act) (w:World),SR P w0 φ e s b cs0 cs a w→nN φ e b→∀it,R0 c it→∀todo,kq P w0 φ s.h.nx e b cs0 (lone (b.atR a (it::todo)) cs w) todo k
def ed (P:Program) (w0:World):Task→Prop
 | .code ac e s k=>∀c,iL P e.nt c=some ac→EE P w0 c e s k
 | .call f args h k=>jk P w0 f args h k
 | .BU f args rc h k=>Ky P w0 f args rc h k
 | .round l args h k=>uy P w0 l args h k
 | .leave ds m h k=>om P w0 ds m h k
theorem ED.of_steps {P:Program}{φ:aO}{m m1:Machine}{b:Frame}{todo:List Item}{x:AX}{cs:List Frame}{a:Act}{w:World}(h:Steps P m m1) (ha:ED P φ m1 b todo x cs a w):ED P φ m b todo x cs a w:=by
 cases x with
 | normal=>exact h.trans ha
 | exit id=>obtain⟨k1,h1,h2⟩:=ha;exact⟨k1,h1,h.trans h2⟩
 | ret=>obtain⟨k1,h2⟩:=ha;exact⟨k1,h.trans h2⟩
 | aT v=>obtain⟨k1,v',h1,h2⟩:=ha;exact⟨k1,v',h1,h.trans h2⟩
theorem kq.of_steps {P:Program}{w0:World}{φ φ1:aO}{N N1:Nat}{e:Env}{b:Frame}{cs0:List Frame}{m m1:Machine}{todo:List Item}{k:KS}(hE:Ext N φ φ1) (hN:N≤N1) (h:Steps P m m1) (g:kq P w0 φ1 N1 e b cs0 m1 todo k):kq P w0 φ N e b cs0 m todo k:=by
 obtain⟨x,s',φ',cY,a',w',h1,h2,h3,h4,h5⟩:=g
 exact⟨x,s',φ',cY,a',w',h1,hE.trans h2 hN,Nat.le_trans hN h3,h4,h5.of_steps h⟩
theorem akD {P:Program}{w:World}{f:FuncId}(hc:Can P f) (args:Array Value):(callFunc f args).run P w= .ok (.enter f args) w:=by
 obtain⟨fn,h1,h2,h3⟩:=hc
 have uz : fn.name ≠ "runtime.NumGoroutine" := by simpa using h2
 have EF:fn.body≠none:=by intro hn;rw [hn]at h3;cases h3
 simp [callFunc,Sem.run_bind,program,Sem.run,Result.andThen,h1,uz,EF]
theorem EG {P:Program}{w:World}{f:FuncId}(hc:Can P f) (cr args:Array Value):(invoke (.fn (.func f) cr) args).run P w= .ok (.enter f (args++cr)) w:=akD hc _
section
variable {P:Program}{w0 w:World}{φ:aO}{e:Env}{s:St}{b:Frame}{cs0 cs:List Frame}{a:Act}{ops:Array Oper}{i:Nat}{o:Oper}{rest:List Nat}{todo:List Item}
def wu (P:Program) (w0:World) (φ:aO) (s:St) (b:Frame) (cs0 cs:List Frame) (a:Act) (w:World) (ops:Array Oper) (i:Nat) (o:Oper) (rest:List Nat) (todo:List Item) (dst:Option Pos) (fail:KS) (k:St→Bool):Prop :=
 (∃v v' s1 φ' w' cY kW,jI dst s1 v s1.h k=true∧s1.tm=s.tm∧Ext s.h.nx φ φ'∧s.h.nx≤s1.h.nx∧VR φ' v v'∧SQ P w0 φ' s1 b cs0 cY {a with defers:=kW} w'∧
  Steps P (lone (b.atR a (.inRegion ops (i::rest)::todo)) cs w) (lone (b.atR (({a with defers:=kW}:Act).put o.dst v') (.inRegion ops rest::todo)) cY w'))∨
 (∃v v' s1 φ' w',fail (.aT v) s1=true∧Ext s.h.nx φ φ'∧s.h.nx≤s1.h.nx∧VR φ' v v'∧SQ P w0 φ' s1 b cs0 cs a w'∧
  Steps P (lone (b.atR a (.inRegion ops (i::rest)::todo)) cs w) (lone {b.atR a (.inRegion ops (i::rest)::todo)with mode:=.panicking [{v:=v',recovered:=false}]} cs w'))
theorem R3 (dst:Option Pos) (s:St) (v:Value) (h:AH) (k:St→Bool):jI dst s v h k=jI dst ⟨s.tm,s.df,s.rc,h⟩ v h k:=by cases s;rfl
theorem uA (hd:∀c,o.op≠.defer c):o.semAt b.roundOf a.eval=execOp a.eval o:=Oper.semAt_eq _ _ _ hd
theorem R4 {p:Prim}{xs:List Operand}(hc:nM P o=some (.aU p,xs)):∀c,o.op≠.defer c:=by
 intro c aY
 simp only [nM,aY]at hc
 split at hc<;>cases hc
theorem akE {p:Prim}{xs:List Operand}{dst:Option Pos}{fail:KS}{k:St→Bool}{vs:List Value}{rec:Task→Bool}(ho:ops[i]? =some o) (hw:Region.wanted o (yielded ops a.tmps)=true)
 (hc:nM P o=some (.aU p,xs)) (hq:SQ P w0 φ s b cs0 cs a w) (hv:LR φ vs (xs.map a.eval)) (h:aaG rec dst e s fail k vs p=true):wu P w0 φ s b cs0 cs a w ops i o rest todo dst fail k:=by
 obtain⟨v',w',v,h',φ',h1,h2,h3,h4,h5,h6⟩:=aax (fun _=>rfl) hc hq.heap hv h
 refine .inl ⟨v,v',⟨s.tm,s.df,s.rc,h'⟩,φ',w',cs,a.defers, ?_,rfl,h3,h4,h5,⟨hq.df.ext h3,hq.rc.ext h3,h6⟩, ?_⟩
 · rw [R3]at h2;exact h2
 · have hs:=uA (b:=b) (a:=a) (R4 hc)
   rcases h1 with h1 | ⟨h1,rfl⟩
   · exact .one (RZ ho hw (by rw [hs];exact h1))
   · exact .one (aaD ho hw (by rw [hs];exact h1))
theorem aaH {f:FuncId}{args':Array Value}{as:List Value}{dst:Option Pos}{fail:KS}{k:St→Bool}(ho:ops[i]? =some o) (hw:Region.wanted o (yielded ops a.tmps)=true)
 (hr:(o.semAt b.roundOf a.eval).run P w= .ok (.enter f args') w) (hq:SQ P w0 φ s b cs0 cs a w) (hl:LR φ as args'.toList) (akF:jk P w0 f as s.h (qa dst s fail k)):wu P w0 φ s b cs0 cs a w ops i o rest todo dst fail k:=by
 obtain⟨E,w',fr,⟨r,h',φ',hk,hE,hN,hH,EH⟩,EI,ly,EJ⟩:=akF.2 φ args' w hl hq.heap (b.atR a (.inRegion ops (i::rest)::todo)::cs)
 have Kz:=aky (k:=todo) (rest:=rest) (cs:=cs) ho hw hr
 cases r with
 | ret v =>
  obtain⟨v',rfl,lS⟩:=EH
  refine .inl ⟨v,v',⟨s.tm,s.df,s.rc,h'⟩,φ',w',cs,a.defers, ?_,rfl,hE,hN,lS,⟨hq.df.ext hE,hq.rc.ext hE,hH⟩,.head Kz (Steps.trans EI (.one ?_))⟩
  · have eW:jI dst s v h' k=true:=hk
    rw [R3]at eW;exact eW
  · have:=step_leave_returned (c:=b.atR a (.inRegion ops (i::rest)::todo)) (cs:=cs) EJ
    rw [Frame.finish_atR,ho]at this
    exact this
 | aT v =>
  obtain⟨v',rfl,lS⟩:=EH
  refine .inr ⟨v,v',⟨s.tm,s.df,s.rc,h'⟩,φ',w', ?_,hE,hN,lS,⟨hq.df.ext hE,hq.rc.ext hE,hH⟩,.head Kz (Steps.trans EI (.one ?_))⟩
  · cases s;exact hk
  · have:=step_leave_panicked (c:=b.atR a (.inRegion ops (i::rest)::todo)) (cs:=cs) EJ
    rw [Frame.raise_atR]at this
    exact this
theorem akG {g:FuncId}{c:Call}{as:List Value}{dst:Option Pos}{fail:KS}{k:St→Bool}{rec:Task→Bool}(dE:∀t,rec t=true→ed P w0 t) (ho:ops[i]? =some o) (hw:Region.wanted o (yielded ops a.tmps)=true)
 (aY:o.op= .call c) (ez:c.callee= .value (.func g)) (hq:SQ P w0 φ s b cs0 cs a w) (hl:LR φ as (c.args.toList.map a.eval)) (h:aaI rec dst e s fail k as g=true):wu P w0 φ s b cs0 cs a w ops i o rest todo dst fail k:=by
 have hC:=dE _ h
 have zb:jk P w0 g as s.h (qa dst s fail k):=hC
 refine aaH (args':=c.args.map a.eval) ho hw ?_ hq (by simpa using hl) zb
 rw [uA (by intro c' h';rw [aY]at h';cases h')]
 have he:a.eval (.func g)= .func (.func g) #[] #[]:=rfl
 simp [execOp,aY,resolve,ez,he,Deferred.ofValue,Sem.run_bind,Result.andThen,EG zb.1]
theorem akH {P:Program}{w:World}{ρ:Operand→Value}{o:Oper}{c:Call}{f:Operand}{fn:Fn}{first cr:Array Value}(aY:o.op= .call c) (ez:c.callee= .value f) (hf:ρ f= .func fn first cr) :
 (execOp ρ o).run P w=(invoke (.fn fn cr) (first++c.args.map ρ)).run P w:=by
 simp [execOp,aY,resolve,ez,hf,Deferred.ofValue,Sem.run_bind,Result.andThen]
theorem LR.zc {φ:aO}{l:List Value}(h:LR φ [] l):l=[]:=by cases h;rfl
theorem R5 {v:Value}{kf:Nat→List Value→List Value→Bool}{ky:Nat→Bool}(h:wv v kf ky=true) :
 (∃g first cr,v= .func (.func g) first cr∧kf g first.toList cr.toList=true)∨∃l,v= .func (.yield l) #[] #[]∧ky l=true:=by
 unfold wv at h
 split at h
 · exact .inl ⟨_,_,_,rfl,h⟩
 · exact .inr ⟨_,rfl,h⟩
 · cases h
theorem akI {f:Operand}{c:Call}{as:List Value}{dst:Option Pos}{fail:KS}{k:St→Bool}{rec:Task→Bool}(dE:∀t,rec t=true→ed P w0 t) (ho:ops[i]? =some o) (hw:Region.wanted o (yielded ops a.tmps)=true)
 (aY:o.op= .call c) (ez:c.callee= .value f) (hq:SQ P w0 φ s b cs0 cs a w) (hl:LR φ as ((f::c.args.toList).map a.eval)) (h:R6 rec dst e s fail k as=true):wu P w0 φ s b cs0 cs a w ops i o rest todo dst fail k:=by
 cases hl with
 | cons fv KA as sB hf hl =>
  have dr:∀c',o.op≠.defer c':=by intro c' h';rw [aY]at h';cases h'
  have h':wv fv (fun g first cr=>jF as cr fun l=>jF first l fun l=>rec (.call g l s.h (qa dst s fail k))) (fun l=>rec (.round l as s.h (qa dst s fail k)))=true:=h
  rcases R5 h' with⟨g,first,cr,rfl,h1⟩ | ⟨l,rfl,h1⟩
  · have zb:jk P w0 g (first.toList++(as++cr.toList)) s.h (qa dst s fail k):=dE _ (uk _ _ (uk _ _ h1))
    generalize EK:a.eval f=KA at hf
    cases hf with
    | func _ uj _ lA _ kS ly h2 h3 =>
     cases ly
     refine aaH (args':=(lA++c.args.map a.eval)++kS) ho hw ?_ hq ?_ zb
     · rw [uA dr]
       simp [execOp,aY,resolve,ez,EK,Deferred.ofValue,Sem.run_bind,Result.andThen,EG zb.1]
     · have:=LR.append (LR.append h3 hl) h2
       simpa using this
  · have zb:uy P w0 l as s.h (qa dst s fail k):=dE _ h1
    generalize EK:a.eval f=KA at hf
    cases hf with
    | func _ uj _ lA _ kS ly h2 h3 =>
     have akJ:lA= #[]:=Array.toList_eq_nil_iff.1 (LR.zc h2)
     have akK:kS= #[]:=Array.toList_eq_nil_iff.1 (LR.zc h3)
     subst akJ;subst akK
     cases ly with
     | yield _ l' hm qb =>
      obtain⟨f2,tmps,asg,bd,hy,EL⟩:=zb φ (c.args.map a.eval) l' w (by simpa using hl) hm qb hq.heap
      obtain⟨v,v',h',φ',w',hk,hE,hN,hH,lS,aaJ⟩:=EL (b.atR a (.inRegion ops (i::rest)::todo)) cs
      have Kz:=akz (b:=b) (a:=a) (k:=todo) (rest:=rest) (cs:=cs) ho hw (l:=l') (f:=f2) (tmps:=tmps) (as:=asg) (bd:=bd) (w':=w) (w:=w) (by
       rw [uA dr,akH aY ez EK]
       simp only [Array.empty_append]
       exact hy)
      refine .inl ⟨v,v',⟨s.tm,s.df,s.rc,h'⟩,φ',w',cs,a.defers, ?_,rfl,hE,hN,lS,⟨hq.df.ext hE,hq.rc.ext hE,hH⟩,.head Kz ?_⟩
      · have eW:jI dst s v h' k=true:=hk
        rw [R3]at eW;exact eW
      · rw [Frame.finish_atR,ho]at aaJ
        exact aaJ
end
end Go.Ve
namespace Go.Ve
open Go.RowKit
section
variable {P:Program}{w0 w:World}{φ:aO}{e:Env}{s:St}{b:Frame}{cs0 cs:List Frame}{a:Act}{ops:Array Oper}{i:Nat}{o:Oper}{rest:List Nat}{todo:List Item}
theorem akL {ρ:Operand→Value}{c:Call}(aY:o.op= .call c) (ez:c.callee= .builtin .recover):(execOp ρ o).run P w= .ok .recover w:=by
 simp [execOp,aY,resolve,ez,Sem.run_bind,Result.andThen,invoke,builtin]
theorem akM {c:Call}{as:List Value}{dst:Option Pos}{fail:KS}{k:St→Bool}(ho:ops[i]? =some o) (hw:Region.wanted o (yielded ops a.tmps)=true)
 (aY:o.op= .call c) (ez:c.callee= .builtin .recover) (hq:SQ P w0 φ s b cs0 cs a w) (he:nN φ e b) (h:EM dst e s k as=true):wu P w0 φ s b cs0 cs a w ops i o rest todo dst fail k:=by
 unfold EM at h
 split at h
 · rename_i qZ
   obtain⟨_,sC⟩:=he
   rw [qZ]at sC
   have BV:b.roundOf=none:=sC
   have cD:(o.semAt b.roundOf a.eval).run P w= .ok .recover w:=by
    rw [uA (by intro c' h';rw [aY]at h';cases h')];exact akL aY ez
   have lT:=hq.rc
   split at h
   · rename_i v iz
     rw [iz]at lT
     obtain⟨rfl,hk,c1,EN,v',rfl,hm,hv⟩:=lT
     have ht:tryRecover (b.atR a (.inRegion ops (i::rest)::todo)) (c1::EN)=some (v',{c1 with mode:=.panicking [{v:=v',recovered:=true}]}::EN):=by
      simp [tryRecover,Frame.atR,hk,hm]
     refine .inl ⟨v,v',⟨s.tm,s.df,.mQ,s.h⟩,φ,w,_,a.defers,h,rfl,Ext.refl _ _,Nat.le_refl _,hv,⟨hq.df,⟨hk,c1,EN,v',rfl,hm,rfl⟩,hq.heap⟩,.one (aaE BV ho hw cD (.inl ht))⟩
   · rename_i R7
     have ht:tryRecover (b.atR a (.inRegion ops (i::rest)::todo)) cs=none:=by
      cases EO:s.rc with
      | can v=>exact absurd EO (R7 v)
      | off =>
       rw [EO]at lT
       obtain⟨rfl,hk | ⟨hk,c1,EN,rfl,hm⟩⟩:=lT
       · simp [tryRecover,Frame.atR,hk]
       · simp [tryRecover,Frame.atR,hk,hm]
      | mQ =>
       rw [EO]at lT
       obtain⟨hk,c1,EN,v',_,_,rfl⟩:=lT
       simp [tryRecover,Frame.atR,hk]
     refine .inl ⟨.nilIface,.nilIface,s,φ,w,cs,a.defers,h,rfl,Ext.refl _ _,Nat.le_refl _,.BG,⟨hq.df,hq.rc,hq.heap⟩,.one (aaE BV ho hw cD (.inr ⟨ht,rfl,rfl⟩))⟩
 · cases h
theorem aaK {t:TypeId}{v:Value}:(Instr.panic (.iface t v)).run P w= .halt (.panic (.iface t v)) w:=by
 simp [Instr.panic,goPanic,Sem.run]
theorem akN {fail:KS}{as:List Value}(h:KB s fail as=true):∃t x,as=[.iface t x]∧fail (.aT (.iface t x)) s=true:=by
 obtain⟨v,rfl,h1⟩:=fy (show a1 as _=true from h)
 cases v<;>first | exact⟨_,_,rfl,h1⟩ | cases h1
theorem aaL {x:Operand}{as:List Value}{dst:Option Pos}{fail:KS}{k:St→Bool}(ho:ops[i]? =some o) (hw:Region.wanted o (yielded ops a.tmps)=true)
 (aY:o.op= .panic x∨∃c,o.op= .call c∧c.callee= .builtin .panic∧c.args.toList=[x]) (hq:SQ P w0 φ s b cs0 cs a w) (hl:LR φ as ([x].map a.eval)) (h:KB s fail as=true):wu P w0 φ s b cs0 cs a w ops i o rest todo dst fail k:=by
 obtain⟨t,v,rfl,h1⟩:=akN h
 obtain⟨v',iM,hv⟩:=LR.one hl
 have hx:a.eval x=v':=by simpa using iM
 cases hv with
 | iface _ _ u hu =>
  refine .inr ⟨_,_,s,φ,w,h1,Ext.refl _ _,Nat.le_refl _,.iface t v u hu,⟨hq.df,hq.rc,hq.heap⟩,.one (akB ho hw ?_)⟩
  rcases aY with aY | ⟨c,aY,ez,lx⟩
  · rw [uA (by intro c' h';rw [aY]at h';cases h')]
    simp [execOp,aY,hx,Sem.run_bind,aaK,Result.andThen]
  · rw [uA (by intro c' h';rw [aY]at h';cases h')]
    have hm:c.args= #[x]:=by rw [←lx]
    simp [execOp,aY,resolve,ez,hm,hx,Sem.run_bind,Result.andThen,invoke,builtin,aaK]
theorem akO {f:Operand}{c:Call}{as:List Value}{dst:Option Pos}{fail:KS}{k:St→Bool}(ho:ops[i]? =some o) (hw:Region.wanted o (yielded ops a.tmps)=true)
 (aY:o.op= .defer c) (ez:c.callee= .value f) (hq:SQ P w0 φ s b cs0 cs a w) (he:nN φ e b) (hl:LR φ as ((f::c.args.toList).map a.eval)) (h:EP dst e s k as=true):wu P w0 φ s b cs0 cs a w ops i o rest todo dst fail k:=by
 unfold EP at h
 split at h
 · rename_i fv sB qZ
   obtain⟨_,sC⟩:=he
   rw [qZ]at sC
   have BV:b.roundOf=none:=sC
   rcases R5 h with⟨g,first,cr,rfl,h1⟩ | ⟨l,rfl,h1⟩
   · have h2:=uk _ _ (uk _ _ h1)
     cases hl with
     | cons _ KA _ awe hf hl =>
      generalize EK:a.eval f=KA at hf
      cases hf with
      | func _ uj _ lA _ kS ly h3 h4 =>
       cases ly
       have cD:(o.semAt b.roundOf a.eval).run P w= .ok (.defer {target:=.fn (.func g) kS,args:=lA++c.args.map a.eval}) w:=by
        rw [BV,Oper.semAt_none]
        simp [execOp,aY,resolve,ez,EK,Deferred.ofValue,Sem.run_bind,Result.andThen]
       refine .inl ⟨undef,undef,⟨s.tm,.fn g (first.toList++(sB++cr.toList))::s.df,s.rc,s.h⟩,φ,w,cs,{target:=.fn (.func g) kS,args:=lA++c.args.map a.eval}::a.defers,h2,rfl,Ext.refl _ _,Nat.le_refl _,VR.undef φ,⟨?_,hq.rc,hq.heap⟩,.one (akA ho hw cD)⟩
       refine .cons _ _ _ _ ⟨kS,_,rfl, ?_⟩ hq.df
       have:=LR.append (LR.append h4 hl) h3
       simpa using this
   · cases h1
 · cases h
theorem R8 {x:Operand}{y:eL}{k:Value→Bool}(hc:qc x=some y) (hr:∀p,y= .t p→VR φ (s.tm.get p) (a.tmps.getD p.un undef)) (h:uB y s.tm k=true):∃v,VR φ v (a.eval x)∧k v=true:=by
 cases x with
 | tmp t =>
  cases hc
  have h':PT.ey (Pos.of t) s.tm k=true:=h
  rw [PT.lz]at h'
  have:=hr _ rfl
  rw [Pos.mM]at this
  exact⟨_,this,h'⟩
 | const v =>
  simp only [qc]at hc
  split at hc
  · rename_i gB
    cases hc
    exact⟨v,qX gB,h⟩
  · cases hc
 | func f=>cases hc;exact⟨_,.func _ _ _ _ _ _ (.func f) .nil .nil,h⟩
 | global g=>cases hc
theorem aaM:∀{xs:List Operand}{ys:List eL}{k:List Value→Bool},xs.mapM qc=some ys→(∀p,eL.t p∈ys→VR φ (s.tm.get p) (a.tmps.getD p.un undef))→qd ys s.tm k=true→∃vs,LR φ vs (xs.map a.eval)∧k vs=true:=by
 intro xs
 induction xs with
 | nil=>intro ys k hm _ h;simp at hm;subst hm;exact⟨[],.nil,h⟩
 | cons x xs ih =>
  intro ys k hm hr h
  rw [List.mapM_cons]at hm
  cases hx:qc x with
  | none=>simp [hx]at hm
  | some y =>
   cases pc:xs.mapM qc with
   | none=>simp [hx,pc]at hm
   | some ys' =>
    simp [hx,pc]at hm
    subst hm
    obtain⟨v,h1,h2⟩:=R8 (a:=a) (s:=s) hx (fun p hp=>hr p (by simp [hp])) (show uB y s.tm (fun v=>qd ys' s.tm fun vs=>k (v::vs))=true from h)
    obtain⟨vs,h3,h4⟩:=ih pc (fun p hp=>hr p (by simp [hp])) h2
    exact⟨v::vs,.cons _ _ _ _ h1 h3,h4⟩
theorem akP (x y:Bool):oo x y=(x==y):=by cases x<;>cases y<;>rfl
theorem R9 {g:Nat}{want:Bool}{t:Tmp}{yes no:Bool}(hg:o.guard=some (g,want)) (ht:(ops[g]?).bind (·.dst)=some t) (hr:VR φ (s.tm.get (Pos.of t)) (a.tmps.getD t undef)) (h:qe (some (Pos.of t,want)) s.tm yes no=true) :
 (Region.wanted o (yielded ops a.tmps)=true∧yes=true)∨(Region.wanted o (yielded ops a.tmps)=false∧no=true):=by
 have h':PT.ey (Pos.of t) s.tm (zd want yes no)=true:=h
 rw [PT.lz]at h'
 have hy:yielded ops a.tmps g=(match a.tmps.getD t undef with | .bool c=>some c | _=>none):=by
  unfold yielded
  rw [ht]
  simp only [Option.bind_some,Array.getD_eq_getD_getElem?]
  cases hh:a.tmps[t]? with
  | none=>rfl
  | some u=>cases u<;>rfl
 unfold Region.wanted
 rw [hg]
 simp only [hy]
 generalize a.tmps.getD t undef=u at hr
 generalize s.tm.get (Pos.of t)=u0 at hr h'
 cases hr with
 | bool c =>
  have h2:(bif oo c want then yes else no)=true:=h'
  rw [akP]at h2
  cases KC:(c==want)with
  | true=>rw [KC]at h2;left;exact⟨by simpa using KC,h2⟩
  | false=>rw [KC]at h2;right;exact⟨by simpa using KC,h2⟩
 | _=>right;exact⟨by simp,h'⟩
theorem BW {nt:Nat}{ao:bS}(h:pe P nt ops o=some ao):∃act xs args,(nM P o=some (act,xs)∨(act= .aU (.x .bad)∧xs=[]))∧xs.mapM qc=some args∧ao.act=act∧ao.args=args∧
 (o.dst=none∧ao.dst=none∨∃d,o.dst=some d∧d<nt∧ao.dst=some (Pos.of d))∧
 (o.guard=none∧ao.guard=none∨∃g want t,o.guard=some (g,want)∧(ops[g]?).bind (·.dst)=some t∧ao.guard=some (Pos.of t,want)):=by
 have hX:nM P o=some (ES P o)∨((ES P o).1= .aU (.x .bad)∧(ES P o).2=[]):=by
  unfold ES
  split
  · rename_i a xs hc
    split
    · exact .inl hc
    · exact .inr ⟨rfl,rfl⟩
  · exact .inr ⟨rfl,rfl⟩
 unfold pe at h
 split at h
 · rename_i act xs ze
   have hc:nM P o=some (act,xs)∨(act= .aU (.x .bad)∧xs=[]):=by rw [ze]at hX;exact hX
   split at h
   · cases h
   · rename_i args ha
     simp only at h
     split at h
     · cases h
     · rename_i dst hd
       have qf:o.dst=none∧dst=none∨∃d,o.dst=some d∧d<nt∧dst=some (Pos.of d):=by
        cases ET:o.dst with
        | none=>rw [ET]at hd;simp at hd;exact .inl ⟨rfl,hd.symm⟩
        | some d =>
         rw [ET]at hd
         simp at hd
         exact .inr ⟨d,rfl,hd.1,hd.2.symm⟩
       split at h
       · rename_i hg
         cases h
         exact⟨act,xs,args,hc,ha,rfl,rfl,qf,.inl ⟨hg,rfl⟩⟩
       · rename_i g want hg
         split at h
         · rename_i t ht
           cases h
           exact⟨act,xs,args,hc,ha,rfl,rfl,qf,.inr ⟨g,want,t,hg,ht,rfl⟩⟩
         · cases h
theorem akQ {act:kB}{xs:List Operand}(hc:nM P o=some (act,xs)) (hn:∀p,act≠.aU p) :
 (∃c,o.op= .call c∧((∃g,act= .call g∧c.callee= .value (.func g)∧xs=c.args.toList)∨(∃f,act= .dyn∧c.callee= .value f∧xs=f::c.args.toList)∨
  (act= .recover∧c.callee= .builtin .recover∧xs=[])∨(∃x,act= .panic∧c.callee= .builtin .panic∧c.args.toList=[x]∧xs=[x])))∨
 (∃x,o.op= .panic x∧act= .panic∧xs=[x])∨(∃c f,o.op= .defer c∧act= .defer∧c.callee= .value f∧xs=f::c.args.toList):=by
 cases aY:o.op<;>simp only [nM,aY]at hc
 case call c =>
  refine .inl ⟨c,rfl, ?_⟩
  cases ez:c.callee with
  | value f =>
   rw [ez]at hc
   cases f with
   | func g' =>
    simp only at hc
    (repeat' split at hc)<;>first
     | (cases hc;done)
     | (cases hc;exact .inl ⟨g',rfl,rfl,rfl⟩)
     | (cases hc;exact absurd rfl (hn _))
   | _=>cases hc;exact .inr (.inl ⟨_,rfl,rfl,rfl⟩)
  | invoke r m=>rw [ez]at hc;cases hc
  | builtin bb =>
   rw [ez]at hc
   cases bb<;>simp only at hc<;>(repeat' split at hc)<;>first
    | (cases hc;done)
    | (cases hc;exact absurd rfl (hn _))
    | (cases hc;rename_i hx;exact .inr (.inr (.inl ⟨rfl,rfl,rfl⟩)))
    | (cases hc;rename_i hx;exact .inr (.inr (.inr ⟨_,rfl,rfl,hx,rfl⟩)))
 case panic x=>cases hc;exact .inr (.inl ⟨x,rfl,rfl,rfl⟩)
 case defer c =>
  split at hc
  · rename_i f ez
    cases hc
    exact .inr (.inr ⟨c,f,rfl,rfl,ez,rfl⟩)
  · cases hc
 all_goals ((repeat' split at hc)<;>first | (cases hc;done) | (cases hc;exact absurd rfl (hn _)))
theorem aaN {ao:bS}{fail:KS}{k:St→Bool}{rec:Task→Bool}{nt:Nat}(dE:∀t,rec t=true→ed P w0 t) (hc:pe P nt ops o=some ao) (ho:ops[i]? =some o) (hq:SQ P w0 φ s b cs0 cs a w) (he:nN φ e b)
 (hr:∀p∈ao.reads,VR φ (s.tm.get p) (a.tmps.getD p.un undef)) (h:wx rec ao e s fail k=true):wu P w0 φ s b cs0 cs a w ops i o rest todo ao.dst fail k:=by
 obtain⟨act,xs,args,h1,h2,rfl,rfl,h4,h5⟩:=BW hc
 have lx:∀p,eL.t p∈ao.args→VR φ (s.tm.get p) (a.tmps.getD p.un undef):=fun p hp=>hr p (by
  unfold bS.reads
  exact List.mem_append_left _ (List.mem_filterMap.2 ⟨.t p,hp,rfl⟩))
 have key:(Region.wanted o (yielded ops a.tmps)=true∧qd ao.args s.tm (BX rec ao.act ao.dst e s fail k)=true)∨(Region.wanted o (yielded ops a.tmps)=false∧jI ao.dst s undef s.h k=true):=by
  have h':qe ao.guard s.tm (qd ao.args s.tm (BX rec ao.act ao.dst e s fail k)) (jI ao.dst s undef s.h k)=true:=by cases ao;exact h
  rcases h5 with⟨g1,g2⟩ | ⟨g,want,t,g1,g2,g3⟩
  · rw [g2]at h'
    exact .inl ⟨by simp [Region.wanted,g1],h'⟩
  · rw [g3]at h'
    refine R9 (φ:=φ) g1 g2 ?_ h'
    have:=hr (Pos.of t) (by unfold bS.reads;rw [g3];simp)
    rw [Pos.mM]at this
    exact this
 rcases key with⟨hw,hk⟩ | ⟨hw,hk⟩
 · obtain⟨vs,hv,hk⟩:=aaM h2 lx hk
   rcases h1 with h1 | ⟨hb,_⟩
   rotate_left
   · rw [hb]at hk;exact Bool.noConfusion (show false=true from hk)
   by_cases hp:∃p,ao.act= .aU p
   · obtain⟨p,hp⟩:=hp
     rw [hp]at h1 hk
     exact akE (rec:=rec) (e:=e) ho hw h1 hq hv hk
   · have hn:∀p,ao.act≠.aU p:=fun p hp'=>hp ⟨p,hp'⟩
     rcases akQ h1 hn with⟨c,aY,⟨g,ha,ez,rfl⟩ | ⟨f,ha,ez,rfl⟩ | ⟨ha,ez,rfl⟩ | ⟨x,ha,ez,hx,rfl⟩⟩ | ⟨x,aY,ha,rfl⟩ | ⟨c,f,aY,ha,ez,rfl⟩
     · rw [ha]at hk;exact akG (e:=e) dE ho hw aY ez hq hv hk
     · rw [ha]at hk;exact akI (e:=e) dE ho hw aY ez hq hv hk
     · rw [ha]at hk;exact akM ho hw aY ez hq he hk
     · rw [ha]at hk;exact aaL ho hw (.inr ⟨c,aY,ez,hx⟩) hq hv hk
     · rw [ha]at hk;exact aaL ho hw (.inl aY) hq hv hk
     · rw [ha]at hk;exact akO ho hw aY ez hq he hv hk
 · refine .inl ⟨undef,undef,s,φ,w,cs,a.defers,hk,rfl,Ext.refl _ _,Nat.le_refl _,VR.undef φ,⟨hq.df,hq.rc,hq.heap⟩,.one ?_⟩
   have:=stepR_op_skip (P:=P) (b:=b) (a:=a) (k:=todo) (cs:=cs) (w:=w) (ops:=ops) (i:=i) (rest:=rest) (by simp [ho,hw])
   rw [ho]at this
   exact this
end
end Go.Ve
namespace Go.Ve
open Go.RowKit
section
variable {P:Program}{w0 w:World}{φ:aO}{e:Env}{s:St}{b:Frame}{cs0 cs:List Frame}{a:Act}{ops:Array Oper}{i:Nat}{o:Oper}{rest:List Nat}{todo:List Item}
theorem akR {dst:Option Pos}{v:Value}{k:St→Bool}(h:jI dst s v s.h k=true):(dst=none∧k s=true)∨∃p,dst=some p∧k ⟨s.tm.set p v,s.df,s.rc,s.h⟩=true:=by
 cases dst with
 | none=>exact .inl ⟨rfl,by cases s;exact h⟩
 | some p =>
  refine .inr ⟨p,rfl, ?_⟩
  have h':PT.iY p s.tm v (fun Sa=>k ⟨Sa,s.df,s.rc,s.h⟩)=true:=by cases s;exact h
  rw [PT.nJ]at h'
  exact h'
theorem Act.KD (a:Act) (d:Option Tmp) (v:Value):(a.put d v).defers=a.defers:=by cases d<;>rfl
theorem SQ.defers {a a':Act}(hq:SQ P w0 φ s b cs0 cs a w) (h:a'.defers=a.defers):SQ P w0 φ s b cs0 cs a' w:=⟨h▸hq.df,hq.rc,hq.heap⟩
inductive BZ (P:Program) (nt:Nat) (ops:Array Oper):List Nat→List bS→Prop where
 | nil:BZ P nt ops [] []
 | cons (i:Nat) (o:Oper) (ao:bS) (is:List Nat) (l:List bS) (ho:ops[i]? =some o) (hc:pe P nt ops o=some ao) (hl:BZ P nt ops is l):BZ P nt ops (i::is) (ao::l)
theorem akS {nt:Nat}:∀(zf pre:List Oper) (l:List bS),zf.mapM (pe P nt ops)=some l→ops.toList=pre++zf→BZ P nt ops (List.range' pre.length zf.length) l:=by
 intro zf
 induction zf with
 | nil=>intro pre l h _;simp at h;subst h;exact .nil
 | cons o zf ih =>
  intro pre l h hp
  rw [List.mapM_cons]at h
  cases ho:pe P nt ops o with
  | none=>simp [ho]at h
  | some ao =>
   cases hs:zf.mapM (pe P nt ops)with
   | none=>simp [ho,hs]at h
   | some l' =>
    simp [ho,hs]at h
    subst h
    rw [List.length_cons,List.range'_succ]
    refine .cons _ o _ _ _ ?_ ho ?_
    · rw [←Array.getElem?_toList,hp];simp
    · have:=ih (pre++[o]) l' hs (by simp [hp])
      simpa using this
theorem akT {nt:Nat}{l:List bS}(h:EU P nt ops=some l):BZ P nt ops (List.range ops.size) l:=by
 have:=akS ops.toList [] l h rfl
 simpa [List.range_eq_range']using this
theorem akU {nt:Nat}{ao:bS}(hc:pe P nt ops o=some ao){a:Act}{tm:PT}(ht:TR φ tm nt a.tmps){v v':Value}(hv:VR φ v v') :
 (ao.dst=none→TR φ tm nt (a.put o.dst v').tmps)∧(∀p,ao.dst=some p→TR φ (tm.set p v) nt (a.put o.dst v').tmps):=by
 obtain⟨act,xs,args,h1,h2,h3,EF,h4,h5⟩:=BW hc
 rcases h4 with⟨h6,h7⟩ | ⟨d,h6,hd,h7⟩
 · rw [h6,h7]
   refine⟨fun _=>ht,fun p hp=> ?_⟩
   cases hp
 · rw [h6,h7]
   refine⟨fun hn=>(by cases hn),fun p hp=> ?_⟩
   cases hp
   have:=ht.set (Pos.of d) (by rw [Pos.mM];exact hd) hv
   rw [Pos.mM]at this
   exact this
theorem akV {rec:Task→Bool}(dE:∀t,rec t=true→ed P w0 t){k:KS}:∀{is:List Nat}{l:List bS},BZ P e.nt ops is l→∀{φ:aO}{s:St}{cs:List Frame}{a:Act}{w:World},SR P w0 φ e s b cs0 cs a w→nN φ e b→EV rec l e s k=true→
 kq P w0 φ s.h.nx e b cs0 (lone (b.atR a (.inRegion ops is::todo)) cs w) todo k:=by
 intro is l hR
 induction hR with
 | nil =>
  intro φ s cs a w hs he h
  exact⟨.normal,s,φ,cs,a,w,h,Ext.refl _ _,Nat.le_refl _,hs,.one stepR_region_end⟩
 | cons i o ao is l ho hc hl ih =>
  intro φ s cs a w hs he h
  have h':wx rec ao e s k (fun s=>EV rec l e s k)=true:=h
  rcases aaN (rest:=is) (todo:=todo) dE hc ho hs.toSQ he (fun p _=>hs.tm.2 p) h' with⟨v,v',s1,φ',w',cY,kW,h1,h2,h3,h4,h5,h6,h7⟩ | ⟨v,v',s1,φ',w',h1,h3,h4,h5,h6,h7⟩
  · have eX:TR φ' s1.tm e.nt ({a with defers:=kW}:Act).tmps:=by rw [h2];exact hs.tm.ext h3
    obtain⟨t1,t2⟩:=akU hc eX h5
    rcases akR h1 with⟨hd,hk⟩ | ⟨p,hd,hk⟩
    · exact(ih (s:=s1) ⟨h6.defers (Act.KD _ _ _),t1 hd⟩ (he.ext h3) hk).of_steps h3 h4 h7
    · exact(ih (s:=⟨s1.tm.set p v,s1.df,s1.rc,s1.h⟩) ⟨SQ.mk (by rw [Act.KD];exact h6.df) h6.rc h6.heap,t2 p hd⟩ (he.ext h3) hk).of_steps h3 h4 h7
  · exact⟨.aT v,s1,φ',cs,a,w',h1,h3,h4,h6,⟨_,v',h5,h7⟩⟩
end
end Go.Ve
namespace Go.Ve
open Go.RowKit
section
variable {P:Program}{w0 w:World}{φ:aO}{h:AH}
theorem Ext.mono {N M:Nat}{φ φ':aO}(h:Ext N φ φ') (hM:M≤N):Ext M φ φ':=⟨h.old,fun f hf=>h.out f (Nat.lt_of_lt_of_le hf hM)⟩
theorem HR.new (H:HR P w0 φ h w){o:AO}{o':Obj}{d n:Nat}{bj:NT AO}(hs:h.ob.ko h.nx (some o) bj) (ho:OR P φ d n o o') :
 HR P w0 (φ.put h.nx (.live w.heap.size d n)) ⟨h.nx+1,bj⟩ (w.alloc o')∧Ext h.nx φ (φ.put h.nx (.live w.heap.size d n)) :=
 H.newAt (f:=h.nx) (h':=⟨h.nx+1,bj⟩) (H.fresh _ (Nat.le_refl _)) hs.1 (fun g hg _=>hs.2 g hg) (fun g hg=>H.fresh g (by have:h.nx+1≤g:=hg;omega)) (fun g hg=>by have h2:h.nx+1≤g:=hg;show bj.get g=none;rw [hs.2 g (by omega)];exact H.top g (by omega)) (Nat.lt_succ_self _) h.nx (Nat.le_refl _) ho
theorem HR.loop (H:HR P w0 φ h w){f:Nat}{l:mc}(hf:φ f≠none) (ho:h.ob.get f=some (.loop l)):∃b d n l',φ f=some (.live b d n)∧w.heap[b]? =some (.loop l')∧sD P φ l l'∧w0.heap.size≤b:=by
 obtain⟨b,d,n,o',h1,h2,h3,h4⟩:=H.live hf ho
 cases h3 with
 | loop _ _ _ l' hl=>exact⟨b,d,n,l',h1,h2,hl,h4 rfl⟩
theorem akW {l:Nat}{r:Loop}(hl:w.heap[l]? =some (.loop r)) (fn:FuncId) (tmps:Array Value) (ps:Array Tmp) (assign body:Code) :
 (Instr.enterLoop fn tmps ps assign body (some l)).run P w= .ok (w.heap.size,[]) (w.alloc (.loop {state:=.ready,pending:=none,fn,tmps,params:=ps,assign,body,defers:=r.defers})):=by
 unfold Instr.enterLoop
 simp only [Sem.run_bind,run_getLoop hl,run_newObj_alloc,Result.andThen,Sem.run_pure]
variable {e:Env}{s:St}{b:Frame}{cs0 cs:List Frame}{a:Act}{todo:List Item}{k:KS}
theorem kq.bind {N:Nat}{m:Machine}{aaO:List Item}{k':KS}(g:kq P w0 φ N e b cs0 m aaO k')
 (h:∀x s1 φ1 fD a1 w1,k' x s1=true→Ext N φ φ1→N≤s1.h.nx→SX P w0 φ1 e x s1 b cs0 fD a1 w1→ED P φ1 m b aaO x fD a1 w1→kq P w0 φ N e b cs0 m todo k):kq P w0 φ N e b cs0 m todo k:=by
 obtain⟨x,s1,φ1,fD,a1,w1,h1,h2,h3,h4,h5⟩:=g
 exact h x s1 φ1 fD a1 w1 h1 h2 h3 h4 h5
theorem step_scope {c:Code}:step P (lone (b.atR a (.code (.scope c)::todo)) cs w)= .next (lone (b.atR a (.code c:: .inScope c::todo)) cs w) :=
 step_lone_go (by simp [stepG,stepG.exec,Frame.atR])
theorem step_inScope {c:Code}:step P (lone (b.atR a (.inScope c::todo)) cs w)= .next (lone (b.atR a todo) cs w) :=
 step_lone_go (by simp [stepG,stepG.exec,Frame.atR])
def aaP (P:Program) (w0:World):Prop:=∀(rec:Task→Bool),(∀t,rec t=true→ed P w0 t)→∀(e:Env) (b:Frame) (cs0:List Frame) (todo:List Item) (k:KS) (id:Nat) (ops:Array Oper) (l:List bS) (dl:List kC),
 EU P e.nt ops=some l→Sb ops l.toArray=some dl→∀(φ:aO) (s:St) (cs:List Frame) (a:Act) (w:World),SR P w0 φ e s b cs0 cs a w→nN φ e b→qg rec dl e s k=true→
  kq P w0 φ s.h.nx e b cs0 (lone (b.atR a (.code (.region id ops true)::todo)) cs w) todo k
theorem aaQ {rec:Task→Bool}(dE:∀t,rec t=true→ed P w0 t){ac:dV}{c2:Code}{it:Item}{m:Machine}{N:Nat}(hc:iL P e.nt c2=some ac) (iA:R0 c2 it) (hx:∀id,exitTo id (it::todo)=exitTo id todo) (he:nN φ e b)
 (g:kq P w0 φ N e b cs0 m (it::todo) (EW rec ac e k)):kq P w0 φ N e b cs0 m todo k:=by
 refine g.bind fun x s1 φ1 fD a1 w1 h1 h2 h3 h4 h5=> ?_
 cases x with
 | normal =>
  have hC:ed P w0 (.code ac e s1 k):=dE _ h1
  have:=hC c2 hc φ1 b cs0 fD a1 w1 h4 (he.ext h2) it iA todo
  exact this.of_steps h2 h3 h5
 | exit id =>
  obtain⟨k1,h6,h7⟩:=h5
  exact⟨.exit id,s1,φ1,fD,a1,w1,h1,h2,h3,h4,k1,by rw [h6,hx],h7⟩
 | ret=>exact⟨.ret,s1,φ1,fD,a1,w1,h1,h2,h3,h4,h5⟩
 | aT v=>exact⟨.aT v,s1,φ1,fD,a1,w1,h1,h2,h3,h4,h5⟩
theorem akX {id:Nat}{m:Machine}{N:Nat}(g:kq P w0 φ N e b cs0 m (.inBlock id::todo) (Sc id k)):kq P w0 φ N e b cs0 m todo k:=by
 refine g.bind fun x s1 φ1 fD a1 w1 h1 h2 h3 h4 h5=> ?_
 cases x with
 | normal=>exact⟨.normal,s1,φ1,fD,a1,w1,h1,h2,h3,h4,Steps.trans h5 (.one stepR_inBlock)⟩
 | exit j =>
  obtain⟨k1,h6,h7⟩:=h5
  have jr:(bif Nat.beq j id then k .normal s1 else k (.exit j) s1)=true:=h1
  cases hj:Nat.beq j id with
  | true =>
   rw [hj]at jr
   have:j=id:=Nat.eq_of_beq_eq_true hj
   subst this
   have h6':exitTo j k1=some todo:=by rw [h6];simp [exitTo]
   exact⟨.normal,s1,φ1,fD,a1,w1,jr,h2,h3,h4,Steps.trans h7 (.one (stepR_exit h6'))⟩
  | false =>
   rw [hj]at jr
   have dr:¬(id=j):=fun e'=>by subst e';rw [Nat.beq_refl]at hj;cases hj
   refine⟨.exit j,s1,φ1,fD,a1,w1,jr,h2,h3,h4,k1, ?_,h7⟩
   rw [h6];simp [exitTo,dr]
 | ret=>exact⟨.ret,s1,φ1,fD,a1,w1,h1,h2,h3,h4,h5⟩
 | aT v=>exact⟨.aT v,s1,φ1,fD,a1,w1,h1,h2,h3,h4,h5⟩
theorem akY {l:Nat}{df:List gV}{pj:Option Code}{h1:AH}{N:Nat}{m:Machine}(hj:KE s df k pj h1=true) (hs:SR P w0 φ e ⟨s.tm,df,s.rc,h1⟩ b cs0 cs a w) (hN:N≤h1.nx)
 (kp:Steps P m (lone (b.atR a ((pj.map Item.code).toList++todo)) cs w)):kq P w0 φ N e b cs0 m todo k:=by
 unfold KE at hj
 split at hj
 · exact⟨.normal,_,φ,cs,a,w,hj,Ext.refl _ _,hN,hs,kp⟩
 · exact⟨.ret,_,φ,cs,a,w,hj,Ext.refl _ _,hN,hs,todo,kp⟩
 · exact⟨.exit _,_,φ,cs,a,w,hj,Ext.refl _ _,hN,hs,todo,rfl,kp⟩
 · cases hj
theorem sD.kE {l:mc}{l':Loop}(r:sD P φ l l') (st:LoopState) (j:Option Code):sD P φ (l.kE st j) {l' with state:=st,pending:=j}:=by
 cases l
 exact⟨rfl,rfl,r.fn,r.tm,r.params,r.small,r.assign,r.body,r.defs,r.Sd⟩
theorem HR.Se (H:HR P w0 φ h w){f b d n:Nat}{l':Loop}{bj:NT AO}(hl:φ f=some (.live b d n)) (hw:w.heap[b]? =some (.loop l')) (hb:w0.heap.size≤b){l2:mc}{EX:Loop}(hs:h.ob.ko f (some (.loop l2)) bj) (hr:sD P φ l2 EX) :
 HR P w0 φ ⟨h.nx,bj⟩ (w.putObj b (.loop EX)):=by
 have bJ:b<w.heap.size:=(Array.getElem?_eq_some_iff.1 hw).1
 exact H.kE (h':=⟨h.nx,bj⟩) hl hs rfl (.loop d n _ _ hr) hb (World.putObj_heap_same bJ) (fun k hk=>World.putObj_heap_other hk) World.putObj_size rfl rfl rfl
theorem aaR {rec:Task→Bool}(dE:∀t,rec t=true→ed P w0 t){g:Operand}{ps:Array Tmp}{assign body:Code}{x y:dV}{gf:FuncId}{first cr lA kS:Array Value}{h1:AH}{dl:Nat}{df:List gV}{mark:List Deferred}{w1:World}{N dl':Nat}
 (gL:∀t∈ps.toList,t<e.nt) (hx:iL P e.nt assign=some x) (hy:iL P e.nt body=some y) (hg:a.eval g= .func (.func gf) lA kS) (zg:LR φ first.toList lA.toList) (zh:LR φ cr.toList kS.toList)
 (hb:b.fn=e.fn) (eX:TR φ s.tm e.nt a.tmps) (wy:DL φ df (mark++a.defers)) (lT:ux φ s.rc b cs0 cs) (H:HR P w0 φ h1 w1) (wz:φ dl≠none) (akZ:∀b d n,φ dl=some (.live b d n)→dl'=b) (hN:N≤h1.nx)
 (ak0:(Instr.enterLoop b.fn a.tmps ps assign body b.roundOf).run P w= .ok (w1.heap.size,mark) (w1.alloc (.loop {state:=.ready,pending:=none,fn:=b.fn,tmps:=a.tmps,params:=ps,assign,body,defers:=dl'})))
 (hk:EY rec e s k (ps.toList.map Pos.of) x y gf first.toList cr.toList h1 dl df=true) :
 kq P w0 φ N e b cs0 (lone (b.atR a (.code (.rangeFunc g ps assign body)::todo)) cs w) todo k:=by
 obtain⟨bj,cM,Sf⟩:=wi hk
 have Sg:sD P φ ⟨.ready,none,e.fn,s.tm,ps.toList.map Pos.of,x,y,dl,e.nt⟩ {state:=.ready,pending:=none,fn:=b.fn,tmps:=a.tmps,params:=ps,assign,body,defers:=dl'} :=
  ⟨rfl,rfl,hb,eX,rfl,gL,hx,hy,wz,akZ⟩
 obtain⟨H1,sE⟩:=H.new cM (.loop 0 0 _ _ Sg)
 have EZ:=uk _ _ Sf
 have hC:jk P w0 gf (first.toList++(.func (.yield h1.nx) ⟨[]⟩ ⟨[]⟩::cr.toList)) ⟨h1.nx+1,bj⟩ (Sh s df k h1.nx):=dE _ EZ
 have lD:(φ.put h1.nx (.live w1.heap.size 0 0)) h1.nx=some (.live w1.heap.size 0 0):=aO.jG _ _ _
 have lx:LR (φ.put h1.nx (.live w1.heap.size 0 0)) (first.toList++(.func (.yield h1.nx) ⟨[]⟩ ⟨[]⟩::cr.toList)) ((lA++ #[Value.func (.yield w1.heap.size) #[] #[]])++kS).toList:=by
  have:=LR.append (LR.cons _ _ _ _ (VR.func (.yield h1.nx) (.yield w1.heap.size) ⟨[]⟩ #[] ⟨[]⟩ #[] (.yield _ _ (by rw [lD];simp) (fun b d n hh=>by rw [lD]at hh;cases hh;rfl)) .nil .nil) (LR.ext sE zh)) (LR.ext sE zg)
  simpa using this
 have qh:=stepR_rangeFunc (P:=P) (b:=b) (a:=a) (k:=todo) (cs:=cs) (w:=w) (g:=g) (ps:=ps) (assign:=assign) (body:=body) (d:={target:=.fn (.func gf) kS,args:=lA++ #[.func (.yield w1.heap.size) #[] #[]]})
  (f:=gf) (args:=(lA++ #[.func (.yield w1.heap.size) #[] #[]])++kS) ak0
  (by
   have KF:a.eval (.const (.func (.yield w1.heap.size) #[] #[]))= .func (.yield w1.heap.size) #[] #[]:=rfl
   simp [resolve,rangeCall,hg,Deferred.ofValue,KF];rfl) (EG hC.1 _ _)
 obtain⟨E,w3,fr,⟨r,h3,φ3,hk3,Si,hN3,H3,EH⟩,EI,ly,EJ⟩:=hC.2 _ _ _ lx H1 (b.atR {a with defers:=mark++a.defers} (.inRangeFunc w1.heap.size::todo)::cs)
 have hE:Ext N φ φ3:=(sE.mono hN).trans Si (Nat.le_trans hN (Nat.le_succ _))
 have hNN:N≤h3.nx:=by have:h1.nx+1≤h3.nx:=hN3;omega
 have aaS:DL φ3 df ({a with defers:=mark++a.defers}:Act).defers:=wy.ext hE
 cases r with
 | aT v =>
  obtain⟨v',rfl,lS⟩:=EH
  refine⟨.aT v,⟨s.tm,df,s.rc,h3⟩,φ3,cs,{a with defers:=mark++a.defers},w3,hk3,hE,hNN,⟨aaS,lT.ext hE,H3⟩,⟨.inRangeFunc w1.heap.size::todo,v',lS,.head qh (Steps.trans EI (.one ?_))⟩⟩
  have:=step_leave_panicked (c:=b.atR {a with defers:=mark++a.defers} (.inRangeFunc w1.heap.size::todo)) (cs:=cs) EJ
  rw [Frame.raise_atR]at this
  exact this
 | ret v =>
  obtain⟨v',rfl,lS⟩:=EH
  have q7:=step_leave_returned (c:=b.atR {a with defers:=mark++a.defers} (.inRangeFunc w1.heap.size::todo)) (cs:=cs) EJ
  rw [finish_atR_inRangeFunc]at q7
  obtain⟨lp,KG,hk4⟩:=E0 hk3
  obtain⟨KH,hk5⟩:=cI hk4
  obtain⟨Sj,ak1,hk6⟩:=o8 hk5
  have ak2:φ3 h1.nx≠none:=Si.dq (by rw [lD];simp)
  obtain⟨b2,d2,n2,KI,Sk,hl3,KJ,hl5⟩:=H3.loop ak2 KG
  have kr:b2=w1.heap.size:=by
   have:=Si.live (by rw [lD];simp) Sk
   rw [lD]at this;cases this;rfl
  subst kr
  have ak3:KI.state≠.busy:=by
   rw [KJ.state]
   intro hh
   rw [hh]at KH;cases KH
  have B0:=stepR_endRangeFunc (P:=P) (b:=b) (a:={a with defers:=mark++a.defers}) (k:=todo) (cs:=cs) (run_endLoop hl3 ak3)
  have hLu:=KJ.kE .exhausted lp.eE
  rw [show({KI with state:=.exhausted,pending:=lp.eE}:Loop)={KI with state:=.exhausted}from by rw [←KJ.eE]]at hLu
  have H4:=H3.Se Sk hl3 hl5 ak1 hLu
  refine(akY (l:=0) (φ:=φ3) (a:={a with defers:=mark++a.defers}) (N:=h3.nx) hk6 ⟨⟨aaS,lT.ext hE,H4⟩,eX.ext hE⟩ (Nat.le_refl _) (m:=lone (b.atR {a with defers:=mark++a.defers} ((KI.pending.map Item.code).toList++todo)) cs _) ?_).of_steps hE hNN (.head qh (Steps.trans EI (.head q7 (.one B0))))
  rw [KJ.eE]
  exact Steps.refl _ _
theorem ak4 {rec:Task→Bool}(dE:∀t,rec t=true→ed P w0 t){g:Operand}{g':eL}{ps:Array Tmp}{assign body:Code}{x y:dV}
 (hg:qc g=some g') (gL:∀t∈ps.toList,t<e.nt) (hx:iL P e.nt assign=some x) (hy:iL P e.nt body=some y) (hs:SR P w0 φ e s b cs0 cs a w) (he:nN φ e b)
 (h:aaT rec e s k g' (ps.toList.map Pos.of) x y=true):kq P w0 φ s.h.nx e b cs0 (lone (b.atR a (.code (.rangeFunc g ps assign body)::todo)) cs w) todo k:=by
 obtain⟨v,hv,h1⟩:=R8 (a:=a) (s:=s) (φ:=φ) hg (fun p _=>hs.tm.2 p) h
 rcases R5 h1 with⟨gf,first,cr,rfl,h2⟩ | ⟨l,rfl,h2⟩
 · generalize hgv:a.eval g=gv at hv
   cases hv with
   | func _ uj _ lA _ kS ly zg zh =>
    cases ly
    obtain⟨hb,sC⟩:=he
    cases hrn:e.wo with
    | none =>
     rw [hrn]at h2 sC
     have BV:b.roundOf=none:=sC
     obtain⟨bj,cM,h3⟩:=wi h2
     obtain⟨H1,sE⟩:=hs.heap.new cM (.defs 0 0 false)
     have lD:(φ.put s.h.nx (.live w.heap.size 0 0)) s.h.nx=some (.live w.heap.size 0 0):=aO.jG _ _ _
     refine(aaR (φ:=φ.put s.h.nx (.live w.heap.size 0 0)) (N:=s.h.nx+1) (w:=w) (w1:=w.alloc (.deferred (some []))) (mark:=[{target:=.collected w.heap.size,args:= #[]}]) (dl':=w.heap.size) dE gL hx hy hgv (LR.ext sE zg) (LR.ext sE zh) hb (hs.tm.ext sE) ?_ (hs.rc.ext sE) H1 (by rw [lD];simp) (fun b d n hh=>by rw [lD]at hh;cases hh;rfl) (Nat.le_refl _) ?_ h3).of_steps sE (Nat.le_succ _) (Steps.refl _ _)
     · exact .cons _ _ _ _ ⟨by rw [lD];simp,w.heap.size,rfl,fun b d n hh=>by rw [lD]at hh;cases hh;rfl⟩ (hs.df.ext sE)
     · rw [BV,run_enterLoop_outer,World.size_alloc]
    | some l =>
     rw [hrn]at h2 sC
     obtain⟨hk,l',iM,hφ,ak5⟩:=sC
     obtain⟨r,B1,h3⟩:=E0 h2
     obtain⟨bl,d,n,r',e1,e2,e3,e4⟩:=hs.heap.loop hφ B1
     have:l'=bl:=ak5 _ _ _ e1
     subst this
     refine aaR (φ:=φ) (w:=w) (w1:=w) (mark:=[]) (dl':=r'.defers) dE gL hx hy hgv zg zh hb hs.tm hs.df hs.rc hs.heap e3.defs (fun b d n hh=>e3.Sd b d n hh) (Nat.le_refl _) ?_ h3
     rw [iM,akW e2]
 · cases h2
theorem aaU (Sn:aaP P w0){rec:Task→Bool}(dE:∀t,rec t=true→ed P w0 t):∀(c:Code) (ac:dV) (e:Env) (s:St) (k:KS),iL P e.nt c=some ac→Sp rec ac e s k=true→
 ∀(φ:aO) (b:Frame) (cs0 cs:List Frame) (a:Act) (w:World),SR P w0 φ e s b cs0 cs a w→nN φ e b→∀it,R0 c it→∀todo,kq P w0 φ s.h.nx e b cs0 (lone (b.atR a (it::todo)) cs w) todo k:=by
 intro c
 induction c with
 | skip =>
  intro ac e s k hc h φ b cs0 cs a w hs he it iA todo
  rcases iA with rfl | ⟨c',gY,_⟩
  · cases hc;exact⟨.normal,s,φ,cs,a,w,h,Ext.refl _ _,Nat.le_refl _,hs,.one stepR_skip⟩
  · cases gY
 | label l =>
  intro ac e s k hc h φ b cs0 cs a w hs he it iA todo
  rcases iA with rfl | ⟨c',gY,_⟩
  · cases hc;exact⟨.normal,s,φ,cs,a,w,h,Ext.refl _ _,Nat.le_refl _,hs,.one stepR_label⟩
  · cases gY
 | region id ops draw =>
  intro ac e s k hc h φ b cs0 cs a w hs he it iA todo
  rcases iA with rfl | ⟨c',gY,_⟩
  · cases draw with
    | false =>
     simp only [iL,Option.map_eq_some_iff]at hc
     obtain⟨l,hl,rfl⟩:=hc
     exact(akV dE (akT hl) hs he h).of_steps (Ext.refl _ _) (Nat.le_refl _) (.one stepR_region)
    | true =>
     simp only [iL]at hc
     split at hc
     · rename_i l hl
       split at hc
       · rename_i dl wz
         cases hc
         exact Sn rec dE e b cs0 todo k id ops l dl hl wz φ s cs a w hs he h
       · cases hc;exact Bool.noConfusion (show false=true from h)
     · cases hc
  · cases gY
 | seq c1 c2 B2 ih2 =>
  intro ac e s k hc h φ b cs0 cs a w hs he it iA todo
  rcases iA with rfl | ⟨c',gY,_⟩
  · simp only [iL]at hc
    split at hc
    · rename_i x y hx hy
      cases hc
      have hC:ed P w0 (.code x e s (EW rec y e k)):=dE _ h
      have g:=hC c1 hx φ b cs0 cs a w hs he _ (.inl rfl) (.code c2::todo)
      exact(aaQ dE hy (.inl rfl) (fun _=>by simp [exitTo]) he g).of_steps (Ext.refl _ _) (Nat.le_refl _) (.one stepR_seq)
    · cases hc
  · cases gY
 | cond c c1 c2 B2 ih2 =>
  intro ac e s k hc h φ b cs0 cs a w hs he it iA todo
  rcases iA with rfl | ⟨c',gY,_⟩
  · simp only [iL]at hc
    split at hc
    · rename_i c0 x y ze hx hy
      cases hc
      obtain⟨v,hv,h1⟩:=R8 (a:=a) (s:=s) (φ:=φ) ze (fun p _=>hs.tm.2 p) h
      obtain⟨t,rfl,h2⟩:=E4 h1
      have KF:=VR.sv hv
      cases t with
      | true =>
       have hC:ed P w0 (.code x e s k):=dE _ h2
       exact(hC c1 hx φ b cs0 cs a w hs he _ (.inl rfl) todo).of_steps (Ext.refl _ _) (Nat.le_refl _) (.one (stepR_cond KF))
      | false =>
       have hC:ed P w0 (.code y e s k):=dE _ h2
       exact(hC c2 hy φ b cs0 cs a w hs he _ (.inl rfl) todo).of_steps (Ext.refl _ _) (Nat.le_refl _) (.one (stepR_cond KF))
    · cases hc
  · cases gY
 | block id c1 B2 =>
  intro ac e s k hc h φ b cs0 cs a w hs he it iA todo
  rcases iA with rfl | ⟨c',gY,_⟩
  · simp only [iL,Option.map_eq_some_iff]at hc
    obtain⟨x,hx,rfl⟩:=hc
    have hC:ed P w0 (.code x e s (Sc id k)):=dE _ h
    exact(akX (hC c1 hx φ b cs0 cs a w hs he _ (.inl rfl) (.inBlock id::todo))).of_steps (Ext.refl _ _) (Nat.le_refl _) (.one stepR_block)
  · cases gY
 | loop c1 B2 =>
  intro ac e s k hc h φ b cs0 cs a w hs he it iA todo
  have ze:=hc
  simp only [iL,Option.map_eq_some_iff]at hc
  obtain⟨x,hx,rfl⟩:=hc
  have hC:ed P w0 (.code x e s (EW rec (.loop x) e k)):=dE _ h
  have g:=aaQ (c2:=.loop c1) dE ze (.inr ⟨c1,rfl,rfl⟩) (fun _=>by simp [exitTo]) he (hC c1 hx φ b cs0 cs a w hs he _ (.inl rfl) (.inLoop c1::todo))
  rcases iA with rfl | ⟨c',gY,rfl⟩
  · exact g.of_steps (Ext.refl _ _) (Nat.le_refl _) (.one stepR_loop)
  · cases gY
    exact g.of_steps (Ext.refl _ _) (Nat.le_refl _) (.one stepR_inLoop)
 | scope c1 B2 =>
  intro ac e s k hc h φ b cs0 cs a w hs he it iA todo
  rcases iA with rfl | ⟨c',gY,_⟩
  · have g:=B2 ac e s k (by simpa only [iL]using hc) h φ b cs0 cs a w hs he _ (.inl rfl) (.inScope c1::todo)
    refine kq.of_steps (Ext.refl _ _) (Nat.le_refl _) (.one step_scope) (g.bind fun x s1 φ1 fD a1 w1 h1 h2 h3 h4 h5=> ?_)
    cases x with
    | normal=>exact⟨.normal,s1,φ1,fD,a1,w1,h1,h2,h3,h4,Steps.trans h5 (.one step_inScope)⟩
    | exit id=>obtain⟨k1,h6,h7⟩:=h5;exact⟨.exit id,s1,φ1,fD,a1,w1,h1,h2,h3,h4,k1,by rw [h6];simp [exitTo],h7⟩
    | ret=>exact⟨.ret,s1,φ1,fD,a1,w1,h1,h2,h3,h4,h5⟩
    | aT v=>exact⟨.aT v,s1,φ1,fD,a1,w1,h1,h2,h3,h4,h5⟩
  · cases gY
 | rangeFunc g ps c1 c2 B2 ih2 =>
  intro ac e s k hc h φ b cs0 cs a w hs he it iA todo
  rcases iA with rfl | ⟨c',gY,_⟩
  · simp only [iL]at hc
    split at hc
    · rename_i g' x y hg hx hy
      split at hc
      · rename_i gL
        cases hc
        exact ak4 dE hg (fun t ht=>by simpa using List.all_eq_true.1 gL t ht) hx hy hs he h
      · cases hc
    · cases hc
  · cases gY
 | exit id =>
  intro ac e s k hc h φ b cs0 cs a w hs he it iA todo
  rcases iA with rfl | ⟨c',gY,_⟩
  · cases hc;exact⟨.exit id,s,φ,cs,a,w,h,Ext.refl _ _,Nat.le_refl _,hs,todo,rfl,Steps.refl _ _⟩
  · cases gY
 | ret =>
  intro ac e s k hc h φ b cs0 cs a w hs he it iA todo
  rcases iA with rfl | ⟨c',gY,_⟩
  · cases hc;exact⟨.ret,s,φ,cs,a,w,h,Ext.refl _ _,Nat.le_refl _,hs,todo,Steps.refl _ _⟩
  · cases gY
 | goto l=>intro ac e s k hc h;cases hc;exact Bool.noConfusion (show false=true from h)
 | refuse why=>intro ac e s k hc h;cases hc;exact Bool.noConfusion (show false=true from h)
end
end Go.Ve
namespace Go.Ve
open Go.RowKit
section
variable {P:Program}{w0 w:World}{φ:aO}{h:AH}
theorem Sq {f:FuncId}{af:jD}(h:ct P f=some af):∃fn c,P.funcs[f]? =some fn∧Can P f∧fn.body=some c∧fn.results.toList.mapM (sF P)=some af.results∧iL P fn.ntmps c=some af.code∧af.ntmps=fn.ntmps:=by
 unfold ct at h
 split at h
 · cases h
 · rename_i fn hf
   split at h
   · cases h
   · rename_i hn
     split at h
     · cases h
     · rename_i c hb
       split at h
       · rename_i rs ac hr hc
         cases h
         exact⟨fn,c,hf,⟨fn,hf,by simpa using hn,by simp [hb]⟩,hb,hr,hc,rfl⟩
       · cases h
theorem aaV:∀(vs:List Value){i:Nat}{t:PT}{k:PT→Bool},uC i vs t k=true→∃t',k t'=true∧∀p:Pos,t'.get p=if i≤p.un∧p.un<i+vs.length then vs.getD (p.un-i) undef else t.get p:=by
 intro vs
 induction vs with
 | nil=>intro i t k h;exact⟨t,h,fun p=>by rw [if_neg (by simp)]⟩
 | cons v vs ih =>
  intro i t k h
  have h':PT.iY (Pos.of i) t v (fun t=>uC (i+1) vs t k)=true:=h
  rw [PT.nJ]at h'
  obtain⟨t',h1,h2⟩:=ih h'
  refine⟨t',h1,fun p=> ?_⟩
  rw [h2,PT.eK]
  by_cases h3:p.un=i
  · have hp:p=Pos.of i:=Pos.wa (by rw [Pos.mM];exact h3)
    rw [if_neg (by omega),if_pos hp,if_pos (by simp;omega)]
    simp [h3]
  · have hp:¬p=Pos.of i:=fun e=>h3 (by rw [e,Pos.mM])
    by_cases h4:i+1≤p.un∧p.un<i+1+vs.length
    · rw [if_pos h4,if_pos (by simp;omega)]
      have:p.un-i=(p.un-(i+1))+1:=by omega
      rw [this];simp
    · rw [if_neg h4,if_neg hp,if_neg (by simp;omega)]
theorem aaW {args:List Value}{args':Array Value}{t:PT}{n:Nat}(hl:LR φ args args'.toList) (ht:∀p:Pos,t.get p=if 0≤p.un∧p.un<0+args.length then args.getD (p.un-0) undef else PT.e.get p) :
 TR φ t n (args'++Array.replicate (n-args'.size) undef):=by
 have hlen:args.length=args'.size:=by rw [hl.length];simp
 refine⟨by simp;omega,fun p=> ?_⟩
 rw [ht p]
 by_cases h:p.un<args.length
 · rw [if_pos (by omega)]
   have h1:args[p.un]? =some args[p.un]:=by simp [h]
   obtain⟨v',h2,h3⟩:=hl.get _ _ h1
   have h4:(args'++Array.replicate (n-args'.size) undef).getD p.un undef=v':=by
    rw [Array.getD_eq_getD_getElem?,Array.getElem?_append_left (by omega)]
    rw [←Array.getElem?_toList,h2];rfl
   rw [h4]
   have h5:args.getD (p.un-0) undef=args[p.un]:=by simp [h]
   rw [h5];exact h3
 · rw [if_neg (by omega),PT.ZY]
   have h4:(args'++Array.replicate (n-args'.size) undef).getD p.un undef=undef:=by
    rw [Array.getD_eq_getD_getElem?,Array.getElem?_append_right (by omega)]
    by_cases h6:p.un-args'.size<n-args'.size
    · simp [Array.getElem?_replicate,h6]
    · rw [Array.getElem?_eq_none (by simp;omega)];rfl
   rw [h4];exact VR.undef φ
theorem ak6 {t:TypeId}{d:TypeDesc}{n:Nat}{x:Value}{a:Addr}(hu:P.underlying t=some d) (hd:nO d=true) (hz:fo P t=some n) (H:HR P w0 φ h w) (hv:VR φ x (.pointer (some a))){k:List Value→Bool}
 (e:jU x (fun b o=>lU h b o n k)=true):∃l l',(loadVar t a).run P w= .ok (.agg l') w∧LR φ l l'.toList∧k l=true:=by
 obtain⟨i,hi,rfl⟩:=mP hz
 obtain⟨a0,ar,e'⟩:=mO e;clear e;subst ar;have e:=e';clear e'
 obtain⟨a',ha,hs,dH⟩:=hv.lB
 cases ha
 obtain⟨lo,KK,ty,rw,c,l,h1,h2,h3,h4,h5,h6⟩:=wh e
 obtain⟨l',hl,cD⟩:=H.cells hs dH h1 h2 (by omega) h5
 refine⟨l,l'.toArray, ?_,by simpa using hl,h6⟩
 rw [h4]at cD
 simp [loadVar,uD hu,hd,kD hi,cD w rfl]
theorem ak7 {t:TypeId}{d:TypeDesc}{x:Value}{a:Addr}(hu:P.underlying t=some d) (hd:nO d=false) (H:HR P w0 φ h w) (hv:VR φ x (.pointer (some a))){k:Value→Bool}
 (e:jU x (fun b o=>sG h b o k)=true):∃v v',(loadVar t a).run P w= .ok v' w∧VR φ v v'∧k v=true:=by
 obtain⟨a0,ar,e'⟩:=mO e;clear e;subst ar;have e:=e';clear e'
 obtain⟨a',ha,hs,dH⟩:=hv.lB
 cases ha
 obtain⟨lo,hi,ty,rw,c,v,h1,h2,h3,h4,h5⟩:=KL e
 obtain⟨v',hc,E5⟩:=H.cell hs dH h1 (j:=0) (by omega) (by omega) (by simpa using h4)
 refine⟨v,v', ?_,E5,h5⟩
 have:a.add 0=a:=rfl
 rw [this]at hc
 simp [loadVar,uD hu,hd,hc]
def B3 (tmps:Array Value):ResultVar→Sem Value
 | .tmp t=>pure (tmps.getD t undef)
 | .cell a t=>do loadVar t (←asAddr (tmps.getD a undef))
theorem ak8 (fn:Func) (tmps:Array Value):results fn tmps=(do let vs←fn.results.mapM (B3 tmps);pure (if h:vs.size=1 then vs[0]else .tuple vs)):=by
 unfold results
 congr 1
theorem ak9 {tmps:Array Value}{tm:PT}{n:Nat}(ht:TR φ tm n tmps) (H:HR P w0 φ h w):∀{rs:List ResultVar}{as:List mN}{k:List Value→Bool},rs.mapM (sF P)=some as→mh as tm h k=true→
 ∃vs jH,(rs.mapM (B3 tmps)).run P w= .ok jH w∧LR φ vs jH∧k vs=true:=by
 intro rs
 induction rs with
 | nil=>intro as k hm h;simp at hm;subst hm;exact⟨[],[],by simp [Sem.run],.nil,h⟩
 | cons r rs ih =>
  intro as k hm hk
  rw [List.mapM_cons]at hm
  cases hr:sF P r with
  | none=>simp [hr]at hm
  | some a =>
   cases wA:rs.mapM (sF P)with
   | none=>simp [hr,wA]at hm
   | some sB =>
    simp [hr,wA]at hm
    subst hm
    have key:∃v v',(B3 tmps r).run P w= .ok v' w∧VR φ v v'∧mh sB tm h (fun vs=>k (v::vs))=true:=by
     cases r with
     | tmp t =>
      cases hr
      have eW:PT.ey (Pos.of t) tm (fun v=>mh sB tm h fun vs=>k (v::vs))=true:=hk
      rw [PT.lz]at eW
      have:=ht.2 (Pos.of t)
      rw [Pos.mM]at this
      exact⟨_,_,by simp [B3,Sem.run],this,eW⟩
     | cell ad t =>
      simp only [sF]at hr
      split at hr
      · rename_i d s hu hs
        have hv:=ht.2 (Pos.of ad)
        rw [Pos.mM]at hv
        split at hr
        · rename_i hd
          cases hr
          have eW:PT.ey (Pos.of ad) tm (fun v=>jU v fun b o=>lU h b o s fun l=>mh sB tm h fun vs=>k (.agg ⟨l⟩::vs))=true:=hk
          rw [PT.lz]at eW
          obtain⟨a0,hp,_⟩:=mO eW
          have o9:=hv
          rw [hp]at o9
          obtain⟨a',ha,_⟩:=o9.lB
          rw [ha]at hv
          obtain⟨l,l',h1,h2,h3⟩:=ak6 hu hd hs H hv eW
          exact⟨.agg ⟨l⟩,.agg l',by simp [B3,ha,asAddr,Sem.run_bind,Result.andThen,h1],.agg _ _ h2,h3⟩
        · rename_i hd
          cases hr
          have eW:PT.ey (Pos.of ad) tm (fun v=>jU v fun b o=>sG h b o fun x=>mh sB tm h fun vs=>k (x::vs))=true:=hk
          rw [PT.lz]at eW
          obtain⟨a0,hp,_⟩:=mO eW
          have o9:=hv
          rw [hp]at o9
          obtain⟨a',ha,_⟩:=o9.lB
          rw [ha]at hv
          obtain⟨v,v',h1,h2,h3⟩:=ak7 hu (by simpa using hd) H hv eW
          exact⟨v,v',by simp [B3,ha,asAddr,Sem.run_bind,Result.andThen,h1],h2,h3⟩
      · cases hr
    obtain⟨v,v',h1,h2,h3⟩:=key
    obtain⟨vs,jH,h4,h5,h6⟩:=ih wA h3
    refine⟨v::vs,v'::jH, ?_,.cons _ _ _ _ h2 h5,h6⟩
    rw [List.mapM_cons]
    simp [Sem.run_bind,h1,h4,Result.andThen,Sem.run]
theorem ala {vs:List Value}{k:Value→Bool}(h:E6 vs k=true):∃v,(vs=[v]∨((∀x,vs≠[x])∧v= .tuple ⟨vs⟩))∧k v=true:=by
 match vs with
 | []=>exact⟨_,.inr ⟨fun x hx=>(by cases hx),rfl⟩,h⟩
 | [v]=>exact⟨v,.inl rfl,h⟩
 | a::b::l=>exact⟨_,.inr ⟨fun x hx=>(by cases hx),rfl⟩,h⟩
theorem aaX {fn:Func}{tmps:Array Value}{tm:PT}{n:Nat}{as:List mN}{k:Value→Bool}(ht:TR φ tm n tmps) (H:HR P w0 φ h w) (hm:fn.results.toList.mapM (sF P)=some as) (hk:mh as tm h (fun vs=>E6 vs k)=true) :
 ∃v v',(results fn tmps).run P w= .ok v' w∧VR φ v v'∧k v=true:=by
 obtain⟨vs,jH,h1,h2,h3⟩:=ak9 ht H hm hk
 obtain⟨v,h4,h5⟩:=ala h3
 rw [ak8,Array.mapM_eq_mapM_toList]
 refine⟨v,if h:jH.toArray.size=1 then jH.toArray[0]else .tuple jH.toArray, ?_, ?_,h5⟩
 · simp only [Sem.run_bind,map_eq_pure_bind,h1,Result.andThen,Sem.run_pure]
 · rcases h4 with rfl | ⟨dr,rfl⟩
   · obtain⟨x',hx,hv⟩:=LR.one h2
     subst hx
     simpa using hv
   · have hl:=h2.length
     rw [dif_neg]
     · exact .iy _ _ h2
     · intro fQ
       simp at fQ
       rw [←hl]at fQ
       obtain⟨x,hx⟩:=List.length_eq_one_iff.1 fQ
       exact dr x hx
theorem wq.Sr {m:Option Value}{u:FrameMode}(h:wq φ m u):u≠.run:=by
 cases m with
 | none=>intro e;rw [show u= .returning from h]at e;cases e
 | some v=>obtain⟨v',rfl,_⟩:=h;intro e;cases e
theorem DL.cons_inv {d:gV}{l:List gV}{l':List Deferred}(h:DL φ (d::l) l'):∃d' m,l'=d'::m∧DR φ d d'∧DL φ l m:=by
 cases h with | cons _ d' _ m h1 h2=>exact⟨d',m,rfl,h1,h2⟩
theorem DL.zc {l':List Deferred}(h:DL φ [] l'):l'=[]:=by cases h;rfl
theorem Ss {rec:Task→Bool}(dE:∀t,rec t=true→ed P w0 t){ds:List gV}{m:Option Value}{k:Option Value→AH→Bool}(e:Su rec ds m h k=true):om P w0 ds m h k:=by
 intro φ fr cs w hd hm H
 cases ds with
 | nil =>
  have h0:=hd.zc
  refine⟨m,h,φ,w,fr.mode,e,Ext.refl _ _,Nat.le_refl _,H,hm, ?_⟩
  have:({fr with defers:=[],mode:=fr.mode}:Frame)=fr:=by rw [←h0]
  rw [this]
  exact Steps.refl _ _
 | cons d ds =>
  obtain⟨d',kW,Sv,hdr,yS⟩:=hd.cons_inv
  cases d with
  | qT r =>
   obtain⟨t,h1,e1⟩:=alb (show B4 h r _=true from e)
   obtain⟨ht,e2⟩:=cI e1
   cases t with
   | true=>cases ht
   | false =>
    obtain⟨bj,cM,e3⟩:=o8 e2
    obtain⟨B1,r',rfl,hr2⟩:=hdr
    obtain⟨b,dd,n,o',q1,q2,q3,q4⟩:=H.live B1 h1
    have hb:=hr2 _ _ _ q1
    subst hb
    cases q3 with
    | defs _ _ _ =>
     have bJ:r'<w.heap.size:=(Array.getElem?_eq_some_iff.1 q2).1
     have H2:HR P w0 φ ⟨h.nx,bj⟩ (w.putObj r' (.deferred none)) :=
      H.kE (h':=⟨h.nx,bj⟩) q1 cM rfl (.defs dd n true) (q4 rfl) (World.putObj_heap_same bJ) (fun k hk=>World.putObj_heap_other hk) World.putObj_size rfl rfl rfl
     have qh:=step_collected (P:=P) (fr:=fr) (cs:=cs) (wq.Sr hm) Sv rfl (run_takeDeferred q2)
     have hL:om P w0 ds m ⟨h.nx,bj⟩ k:=dE _ e3
     obtain⟨m',h',φ',w',u,a1,a2,a3,a4,a5,a6⟩:=hL φ {fr with defers:=[]++kW} cs _ yS hm H2
     exact⟨m',h',φ',w',u,a1,a2,a3,a4,a5,.head qh a6⟩
  | fn f args =>
   obtain⟨cr,args',rfl,hl⟩:=hdr
   cases m with
   | none =>
    have e1:rec (.BU f args .off h fun _ h=>rec (.leave ds none h k))=true:=e
    have hD:Ky P w0 f args .off h (fun _ h=>rec (.leave ds none h k)):=dE _ e1
    have Sw:fr.mode= .returning:=hm
    have qh:=step_defer (P:=P) (w:=w) (fr:=fr) (cs:=cs) (wq.Sr hm) Sv rfl (EG hD.1 _ _)
    obtain⟨BT,h',φ',w',c',q8,v,a1,a2,a3,a4,a5,a6,a7,a8⟩:=hD.2 φ _ w {fr with defers:=kW} cs hl H Sw
    have gY:c'={fr with defers:=kW}:=by
     cases BT with
     | off=>exact a5.1
     | can v=>exact a5.1
     | mQ=>obtain⟨v',lS,_⟩:=a5;rw [show({fr with defers:=kW}:Frame).mode= .returning from Sw]at lS;cases lS
    subst gY
    have q7:=step_going_returned (P:=P) (c:={fr with defers:=kW}) (cs:=cs) a7 a8
    have cM:settle ({fr with defers:=kW}:Frame).mode= .returning:=by rw [show({fr with defers:=kW}:Frame).mode= .returning from Sw];rfl
    rw [cM]at q7
    have hL:om P w0 ds none h' k:=dE _ a1
    obtain⟨m',h2,φ2,w2,u,b1,b2,b3,b4,b5,b6⟩:=hL φ' ({fr with defers:=kW,mode:=.returning}:Frame) cs w' (yS.ext a2) rfl a4
    exact⟨m',h2,φ2,w2,u,b1,a2.trans b2 a3,Nat.le_trans a3 b3,b4,b5,.head qh (Steps.trans a6 (.head q7 b6))⟩
   | some v =>
    have e1:rec (.BU f args (.can v) h (Sx rec ds k))=true:=e
    have hD:Ky P w0 f args (.can v) h (Sx rec ds k):=dE _ e1
    have qh:=step_defer (P:=P) (w:=w) (fr:=fr) (cs:=cs) (wq.Sr hm) Sv rfl (EG hD.1 _ _)
    obtain⟨BT,h',φ',w',c',q8,v2,a1,a2,a3,a4,a5,a6,a7,a8⟩:=hD.2 φ _ w {fr with defers:=kW} cs hl H hm
    have q7:=step_going_returned (P:=P) (c:=c') (cs:=cs) a7 a8
    cases BT with
    | off=>cases a1
    | can v3 =>
     obtain⟨rfl,v',q1,q2⟩:=a5
     have cM:settle ({fr with defers:=kW}:Frame).mode= .panicking [{v:=v',recovered:=false}]:=by rw [q1];rfl
     rw [cM]at q7
     have hL:om P w0 ds (some v3) h' k:=dE _ a1
     obtain⟨m',h2,φ2,w2,u,b1,b2,b3,b4,b5,b6⟩:=hL φ' ({fr with defers:=kW,mode:=.panicking [{v:=v',recovered:=false}]}:Frame) cs w' (yS.ext a2) ⟨v',rfl,q2⟩ a4
     exact⟨m',h2,φ2,w2,u,b1,a2.trans b2 a3,Nat.le_trans a3 b3,b4,b5,.head qh (Steps.trans a6 (.head q7 b6))⟩
    | mQ =>
     obtain⟨v',q1,rfl⟩:=a5
     have hL:om P w0 ds none h' k:=dE _ a1
     obtain⟨m',h2,φ2,w2,u,b1,b2,b3,b4,b5,b6⟩:=hL φ' ({fr with defers:=kW,mode:=.returning}:Frame) cs w' (yS.ext a2) rfl a4
     exact⟨m',h2,φ2,w2,u,b1,a2.trans b2 a3,Nat.le_trans a3 b3,b4,b5,.head qh (Steps.trans a6 (.head q7 b6))⟩
def mR (f:FuncId) (kind:CallKind):Frame:={(default:Frame)with fn:=f,kind,roundOf:=none}
theorem aaY {f:FuncId}{fn:Func}{c:Code}(hf:P.funcs[f]? =some fn) (hb:fn.body=some c) (args:Array Value) (kind:CallKind) :
 Frame.enter P f args kind=(mR f kind).atR {tmps:=args++Array.replicate (fn.ntmps-args.size) undef,defers:=[]} [.code c]:=by
 simp [Frame.enter,Frame.atR,hf,hb,mR]
variable {prog:NT jD}
theorem ux.normal {rc:Rc}{b:Frame}{cs0 cs:List Frame}(h:ux φ rc b cs0 cs) (hb:b.kind= .normal):cs=cs0:=by
 cases rc with
 | off=>exact h.1
 | can v=>exact h.1
 | mQ=>have h1:=h.1;rw [hb]at h1;cases h1
theorem Sy {N:Nat}{f:FuncId}{fn:Func}{k:CR→AH→Bool}{fr:Frame}{cs:List Frame}{ds:List gV}{m:Option Value}{kl:Option Value→AH→Bool}{m0:Machine}
 (hL:om P w0 ds m h kl) (hd:DL φ ds fr.defers) (hm:wq φ m fr.mode) (H:HR P w0 φ h w) (ly:fr.fn=f) (hf:P.funcs[f]? =some fn) (alc:fr.kind= .normal) (kp:Steps P m0 (lone fr cs w)) (hN:N≤h.nx)
 (hkl:∀m' h',kl m' h'=true→(∃v,m'=some v∧k (.aT v) h'=true)∨(m'=none∧(∀φ' w',Ext h.nx φ φ'→HR P w0 φ' h' w'→∃v v',(Go.results fn fr.tmps).run P w'= .ok v' w'∧VR φ' v v'∧k (.ret v) h'=true))) :
 ∃E w' q8,(∃r h' φ',k r h'=true∧Ext N φ φ'∧N≤h'.nx∧HR P w0 φ' h' w'∧EC φ' r E)∧Comes P m0 (lone q8 cs w') E∧q8.fn=f∧q8.leaving P w' E:=by
 obtain⟨m',h',φ',w',u,a1,a2,a3,a4,a5,a6⟩:=hL φ fr cs w hd hm H
 rcases hkl m' h' a1 with⟨v,rfl,hk⟩ | ⟨rfl,hk⟩
 · obtain⟨v',rfl,hv⟩:=a5
   exact⟨.panicked [{v:=v',recovered:=false}],w',{fr with defers:=[],mode:=.panicking [{v:=v',recovered:=false}]},⟨.aT v,h',φ',hk,a2.mono hN,Nat.le_trans hN a3,a4,v',rfl,hv⟩,Steps.trans kp a6,ly,rfl,rfl,fn,by rw [←hf,←ly]⟩
 · have hu:u= .returning:=a5
   subst hu
   obtain⟨v,v',b1,b2,b3⟩:=hk φ' w' a2 a4
   exact⟨.returned v',w',{fr with defers:=[],mode:=.returning},⟨.ret v,h',φ',b3,a2.mono hN,Nat.le_trans hN a3,a4,v',rfl,b2⟩,Steps.trans kp a6,ly,rfl,rfl,alc,fn,by rw [←hf,←ly],b1⟩
theorem results_none {fn:Func}(hm:fn.results.toList.mapM (sF P)=some []) (tmps:Array Value) (w:World):(results fn tmps).run P w= .ok (.tuple #[]) w:=by
 have:fn.results= #[]:=by
  cases hl:fn.results.toList with
  | nil=>exact Array.toList_eq_nil_iff.1 hl
  | cons r rs =>
   rw [hl,List.mapM_cons]at hm
   cases hr:sF P r with
   | none=>simp [hr]at hm
   | some a =>
    cases wA:rs.mapM (sF P)with
    | none=>simp [hr,wA]at hm
    | some sB=>simp [hr,wA]at hm
 simp [results,this,Sem.run_bind,Result.andThen]
theorem HR.forget (H:HR P w0 φ h w){f:Nat}(hf:φ f=none){h':AH}(cM:h.ob.ko f none h'.ob) (kG:h'.nx=h.nx):HR P w0 φ h' w:=by
 refine⟨H.inj,by rw [kG];exact H.fresh,fun g hg=> ?_,fun g hg=> ?_,fun g b d n hg=> ?_,H.below⟩
 · rw [kG]at hg
   by_cases ee:g=f
   · subst ee;exact cM.1
   · rw [cM.2 g ee];exact H.top g hg
 · have ee:g≠f:=fun e=>by subst e;rw [hf]at hg;cases hg
   rw [cM.2 g ee];exact H.dead g hg
 · have ee:g≠f:=fun e=>by subst e;rw [hf]at hg;cases hg
   obtain⟨o1,o2,a1,a2⟩:=H.obj g b d n hg
   exact⟨o1,o2,by rw [cM.2 g ee];exact a1,a2⟩
theorem KM {dq:List Nat}:∀(n:Nat){b:Nat}{φ:aO}{h:AH}{k:AH→Bool},HR P w0 φ h w→KN dq n b h k=true→∃φ' h',k h'=true∧HR P w0 φ' h' w∧h'.nx=h.nx∧∀N,Ext N φ φ'
 | 0,b,φ,h,k,H,e=>⟨φ,h,e,H,rfl,fun N=>Ext.refl N φ⟩
 | n+1,b,φ,h,k,H,e=>by
  have e1:fN (Nat.succ b) (fun b'=>bif sH dq b then KN dq n b' h k else iK h b none fun h=>KN dq n b' h k)=true:=e
  rw [cz]at e1
  cases hm:sH dq b with
  | true=>rw [hm,cond_true]at e1;exact KM n H e1
  | false =>
   rw [hm,cond_false]at e1
   obtain⟨bj,h1,h2⟩:=o8 e1
   by_cases hb:φ b=none
   · obtain⟨φ',h',a1,a2,a3,a4⟩:=KM n (H.forget (h':=⟨h.nx,bj⟩) hb h1 rfl) h2
     exact⟨φ',h',a1,a2,a3,a4⟩
   · obtain⟨φ',h',a1,a2,a3,a4⟩:=KM n (H.kill (h':=⟨h.nx,bj⟩) hb h1 rfl) h2
     exact⟨φ',h',a1,a2,a3,fun N=>(aO.KO φ N b hb).trans (a4 N) (Nat.le_refl _)⟩
theorem EC.ext {N:Nat}{φ φ':aO}(hE:Ext N φ φ'){r:CR}{E:_}(h:EC φ r E):EC φ' r E:=by
 cases r with
 | ret v=>obtain⟨v',h1,h2⟩:=h;exact⟨v',h1,VR.ext hE h2⟩
 | aT v=>obtain⟨v',h1,h2⟩:=h;exact⟨v',h1,VR.ext hE h2⟩
theorem jk.jn {det:Bool}{f:FuncId}{args:List Value}{k:CR→AH→Bool}(hC:jk P w0 f args h (jn det h k)):jk P w0 f args h k:=by
 refine⟨hC.1,fun φ args' w hl H=>Calls.mono (hC.2 φ args' w hl H) fun E w' hR=> ?_⟩
 obtain⟨r,h',φ',h1,h2,h3,h4,h5⟩:=hR
 cases det with
 | false=>exact⟨r,h',φ',h1,h2,h3,h4,h5⟩
 | true =>
  cases r with
  | aT v=>exact⟨_,h',φ',h1,h2,h3,h4,h5⟩
  | ret v =>
   have h1:Sz h k v h'=true:=h1
   unfold Sz at h1
   split at h1
   · exact⟨_,h',φ',(cI h1).1,h2,h3,h4,h5⟩
   · rw [cz,cz]at h1
     obtain⟨φ2,uz,a1,a2,a3,a4⟩:=KM _ h4 h1
     exact⟨_,uz,φ2,(cI a1).1,h2.trans (a4 _) (Nat.le_refl _),by rw [a3];exact h3,a2,h5.ext (a4 0)⟩
def KP (P:Program) (w0:World) (sums:uE):Prop:=∀p∈sums,∀(args:List Value) (h:AH) (k:CR→AH→Bool),p.2 args h k=true→jk P w0 p.1 args h k
theorem aaZ {rec:Task→Bool}(dE:∀t,rec t=true→ed P w0 t){f:FuncId}{af:jD}(E7:ct P f=some af){args:List Value}{k:CR→AH→Bool}(e2:uC 0 args .e (fun tm=>rec (.code af.code ⟨f,af.ntmps,none⟩ ⟨tm,[],.off,h⟩ (E8 rec af.results k)))=true):jk P w0 f args h k:=by
 obtain⟨fn,c,hf,iz,hb,qi,SA,SB⟩:=Sq E7
 obtain⟨tm,e3,eX⟩:=aaV _ e2
 refine⟨iz,fun φ args' w hl H cs=> ?_⟩
 rw [aaY hf hb]
 have hC:ed P w0 (.code af.code ⟨f,af.ntmps,none⟩ ⟨tm,[],.off,h⟩ (E8 rec af.results k)):=dE _ e3
 rw [SB]at hC
 have SC:=aaW (n:=fn.ntmps) hl eX
 obtain⟨x,s1,φ1,fD,a1,w1,g1,g2,g3,g4,g5⟩:=hC c SA φ (mR f .normal) cs cs {tmps:=args'++Array.replicate (fn.ntmps-args'.size) undef,defers:=[]} w
  ⟨⟨.nil,⟨rfl,.inl rfl⟩,H⟩,SC⟩ ⟨rfl,rfl⟩ (.code c) (.inl rfl) []
 have kX:h.nx≤s1.h.nx:=g3
 cases x with
 | exit id=>cases g1
 | normal =>
  have iN:SR P w0 φ1 ⟨f,fn.ntmps,none⟩ s1 (mR f .normal) cs fD a1 w1:=g4
  have fm:=iN.rc.normal rfl
  subst fm
  have hL:om P w0 s1.df none s1.h (E9 af.results s1.tm k):=dE _ g1
  obtain⟨E,w',q8,⟨r,h',φ',b1,b2,b3,b4,b5⟩,b6,b7,b8⟩:=Sy (f:=f) (fn:=fn) (N:=s1.h.nx) (k:=k) (fr:={(mR f .normal).atR a1 []with mode:=.returning}) (cs:=fD) hL iN.df rfl iN.heap rfl hf rfl (Steps.trans g5 (.one (stepR_end rfl))) (Nat.le_refl _) (fun m' h' hk=>by
   cases m' with
   | some v=>exact .inl ⟨v,rfl,hk⟩
   | none=>exact .inr ⟨rfl,fun φ' w' hE hH=>aaX (iN.tm.ext hE) hH qi hk⟩)
  exact⟨E,w',q8,⟨r,h',φ',b1,g2.trans b2 kX,Nat.le_trans kX b3,b4,b5⟩,b6,b7,b8⟩
 | ret =>
  obtain⟨k1,g5⟩:=g5
  have iN:SR P w0 φ1 ⟨f,fn.ntmps,none⟩ s1 (mR f .normal) cs fD a1 w1:=g4
  have fm:=iN.rc.normal rfl
  subst fm
  have hL:om P w0 s1.df none s1.h (E9 af.results s1.tm k):=dE _ g1
  obtain⟨E,w',q8,⟨r,h',φ',b1,b2,b3,b4,b5⟩,b6,b7,b8⟩:=Sy (f:=f) (fn:=fn) (N:=s1.h.nx) (k:=k) (fr:={(mR f .normal).atR a1 (.code .ret::k1)with mode:=.returning}) (cs:=fD) hL iN.df rfl iN.heap rfl hf rfl (Steps.trans g5 (.one (stepR_ret rfl))) (Nat.le_refl _) (fun m' h' hk=>by
   cases m' with
   | some v=>exact .inl ⟨v,rfl,hk⟩
   | none=>exact .inr ⟨rfl,fun φ' w' hE hH=>aaX (iN.tm.ext hE) hH qi hk⟩)
  exact⟨E,w',q8,⟨r,h',φ',b1,g2.trans b2 kX,Nat.le_trans kX b3,b4,b5⟩,b6,b7,b8⟩
 | aT v =>
  obtain⟨k1,v',hv,g5⟩:=g5
  have iN:SQ P w0 φ1 s1 (mR f .normal) cs fD a1 w1:=g4
  have fm:=iN.rc.normal rfl
  subst fm
  have hL:om P w0 s1.df (some v) s1.h (aa0 af.results k):=dE _ g1
  obtain⟨E,w',q8,⟨r,h',φ',b1,b2,b3,b4,b5⟩,b6,b7,b8⟩:=Sy (f:=f) (fn:=fn) (N:=s1.h.nx) (k:=k) (fr:={(mR f .normal).atR a1 k1 with mode:=.panicking [{v:=v',recovered:=false}]}) (cs:=fD) hL iN.df ⟨v',rfl,hv⟩ iN.heap rfl hf rfl g5 (Nat.le_refl _) (fun m' h' hk=>by
   cases m' with
   | some v=>exact .inl ⟨v,rfl,hk⟩
   | none =>
    refine .inr ⟨rfl,fun φ' w' hE hH=> ?_⟩
    have eW:(match af.results with | []=>k (.ret (.tuple ⟨[]⟩)) h' | _=>false)=true:=hk
    split at eW
    · rename_i hr
      rw [hr]at qi
      exact⟨_,_,results_none qi _ _,.iy ⟨[]⟩ #[] .nil,eW⟩
    · cases eW)
  exact⟨E,w',q8,⟨r,h',φ',b1,g2.trans b2 kX,Nat.le_trans kX b3,b4,b5⟩,b6,b7,b8⟩
theorem ald (q9:∀f af,prog.get f=some af→ct P f=some af){rec:Task→Bool}(dE:∀t,rec t=true→ed P w0 t){f:FuncId}{args:List Value}{k0:CR→AH→Bool}(e:aa1 prog rec f args h k0=true):jk P w0 f args h k0:=by
 obtain⟨af,E7,e1⟩:=NT.yT _ _ _ (show NT.ey prog f _=true from e)
 exact jk.jn (det:=af.det) (aaZ dE (q9 f af E7) (by cases af;exact e1))
theorem aa2 (q9:∀f af,prog.get f=some af→ct P f=some af){rec:Task→Bool}(dE:∀t,rec t=true→ed P w0 t){f:FuncId}{args:List Value}{k:CR→AH→Bool}:∀{sums:uE},KP P w0 sums→KQ prog sums rec f args h k=true→jk P w0 f args h k
 | [],_,e=>ald q9 dE e
 | (g,S)::l,hs,e=>by
  have e1:(bif Nat.beq g f then S args h k else KQ prog l rec f args h k)=true:=e
  by_cases hg:g=f
  · subst hg
    rw [ma rfl,cond_true]at e1
    exact hs _ (.head _) _ _ _ e1
  · rw [gg hg,cond_false]at e1
    exact aa2 q9 dE (fun p hp=>hs p (.tail _ hp)) e1
theorem SD {df:List gV}{k:Bool}(h:wB df k=true):df=[]∧k=true:=by cases df with | nil=>exact⟨rfl,h⟩ | cons _ _=>cases h
theorem ale (q9:∀f af,prog.get f=some af→ct P f=some af){rec:Task→Bool}(dE:∀t,rec t=true→ed P w0 t){f:FuncId}{args:List Value}{rc:Rc}{k:Rc→AH→Bool}(e:aa3 prog rec f args rc h k=true):Ky P w0 f args rc h k:=by
 obtain⟨af,E7,e1⟩:=NT.yT _ _ _ (show NT.ey prog f _=true from e)
 obtain⟨fn,c,hf,iz,hb,qi,SA,SB⟩:=Sq (q9 f af E7)
 have e2:af.results=[]∧uC 0 args .e (fun tm=>rec (.code af.code ⟨f,af.ntmps,none⟩ ⟨tm,[],rc,h⟩ (SE k)))=true:=by
  cases af with
  | mk nt rs code det=>cases rs with
   | nil=>exact⟨rfl,e1⟩
   | cons _ _=>cases e1
 obtain⟨Fa,e2⟩:=e2
 rw [Fa]at qi
 obtain⟨tm,e3,eX⟩:=aaV _ e2
 refine⟨iz,fun φ args' w cl cs hl H lT=> ?_⟩
 rw [aaY hf hb]
 have hC:ed P w0 (.code af.code ⟨f,af.ntmps,none⟩ ⟨tm,[],rc,h⟩ (SE k)):=dE _ e3
 rw [SB]at hC
 have SC:=aaW (n:=fn.ntmps) hl eX
 have EO:ux φ rc (mR f .deferred) (cl::cs) (cl::cs):=by
  cases rc with
  | off=>exact⟨rfl,.inr ⟨rfl,cl,cs,rfl,lT⟩⟩
  | can v=>obtain⟨v',q1,q2⟩:=lT;exact⟨rfl,rfl,cl,cs,v',rfl,q1,q2⟩
  | mQ=>exact lT.elim
 obtain⟨x,s1,φ1,fD,a1,w1,g1,g2,g3,g4,g5⟩:=hC c SA φ (mR f .deferred) (cl::cs) (cl::cs) {tmps:=args'++Array.replicate (fn.ntmps-args'.size) undef,defers:=[]} w
  ⟨⟨.nil,EO,H⟩,SC⟩ ⟨rfl,rfl⟩ (.code c) (.inl rfl) []
 have B0:∀{fD:List Frame}{KR:Rc},ux φ1 KR (mR f .deferred) (cl::cs) fD→∃c',fD=c'::cs∧aaF φ1 KR cl c':=by
  intro fD KR hr
  cases KR with
  | off =>
   obtain⟨rfl,hn | ⟨_,c1,rest,hc,hm⟩⟩:=hr
   · cases hn
   · cases hc;exact⟨cl,rfl,rfl,hm⟩
  | can v=>obtain⟨rfl,_,c1,rest,v',hc,hm,hv⟩:=hr;cases hc;exact⟨cl,rfl,rfl,v',hm,hv⟩
  | mQ=>obtain⟨_,c1,rest,v',hc,hm,rfl⟩:=hr;cases hc;exact⟨_,rfl,v',hm,rfl⟩
 cases x with
 | exit id=>cases g1
 | aT v=>cases g1
 | normal =>
  have iN:SR P w0 φ1 ⟨f,fn.ntmps,none⟩ s1 (mR f .deferred) (cl::cs) fD a1 w1:=g4
  obtain⟨wy,hk⟩:=SD (show wB s1.df (k s1.rc s1.h)=true from g1)
  obtain⟨c',rfl,Fb⟩:=B0 iN.rc
  have mS:=iN.df
  rw [wy]at mS
  exact⟨s1.rc,s1.h,φ1,w1,c',{(mR f .deferred).atR a1 []with mode:=.returning},_,hk,g2,g3,iN.heap,Fb,Steps.trans g5 (.one (stepR_end rfl)),rfl,rfl,mS.zc,fn,hf,results_none qi _ _⟩
 | ret =>
  obtain⟨k1,g5⟩:=g5
  have iN:SR P w0 φ1 ⟨f,fn.ntmps,none⟩ s1 (mR f .deferred) (cl::cs) fD a1 w1:=g4
  obtain⟨wy,hk⟩:=SD (show wB s1.df (k s1.rc s1.h)=true from g1)
  obtain⟨c',rfl,Fb⟩:=B0 iN.rc
  have mS:=iN.df
  rw [wy]at mS
  exact⟨s1.rc,s1.h,φ1,w1,c',{(mR f .deferred).atR a1 (.code .ret::k1)with mode:=.returning},_,hk,g2,g3,iN.heap,Fb,Steps.trans g5 (.one (stepR_ret rfl)),rfl,rfl,mS.zc,fn,hf,results_none qi _ _⟩
end
end Go.Ve
namespace Go.Ve
open Go.RowKit
section
variable {P:Program}{w0 w:World}{φ:aO}{h:AH}
theorem alf:∀(ps:List Tmp){vs:List Value}{jH:List Value}{t:PT}{n:Nat}{tm:Array Value}{k:PT→Bool},(∀p∈ps,p<n)→LR φ vs jH→TR φ t n tm→B5 (ps.map Pos.of) vs t k=true→
 ps.length=jH.length∧∃t',TR φ t' n ((ps.zip jH).foldl (fun tmps (x:Tmp×Value)=>tmps.setIfInBounds x.1 x.2) tm)∧k t'=true:=by
 intro ps
 induction ps with
 | nil =>
  intro vs jH t n tm k _ hl ht hk
  obtain⟨hn,eW⟩:=wj (show a0 vs (k t)=true from hk)
  subst hn
  have:=hl.zc
  subst this
  exact⟨rfl,t,by simpa using ht,eW⟩
 | cons p ps ih =>
  intro vs jH t n tm k hp hl ht hk
  cases hl with
  | nil=>cases hk
  | cons v v' vs jH hv hl =>
   have eW:PT.iY (Pos.of p) t v (fun t=>B5 (ps.map Pos.of) vs t k)=true:=hk
   rw [PT.nJ]at eW
   have wC:=ht.set (Pos.of p) (by rw [Pos.mM];exact hp p (by simp)) hv
   rw [Pos.mM]at wC
   obtain⟨h1,t',h2,h3⟩:=ih (fun q hq=>hp q (by simp [hq])) hl wC eW
   exact⟨by simp [h1],t',by simpa using h2,h3⟩
theorem alg (ps:Array Tmp) (vs:Array Value) (tm:Array Value):(ps.zip vs).foldl (fun tmps (t,a)=>tmps.setIfInBounds t a) tm=(ps.toList.zip vs.toList).foldl (fun tmps (x:Tmp×Value)=>tmps.setIfInBounds x.1 x.2) tm:=by
 rw [←Array.foldl_toList]
 simp only [Array.toList_zip]
theorem SF (H:HR P w0 φ h w){l l':Nat}(hl:φ l≠none) (iM:∀b d n,φ l=some (.live b d n)→l'=b){k:CR→AH→Bool}{j:Option Code}{st:LoopState}{b:Bool}(kp:st=if j.isNone then .ready else .done) (hb:b=j.isNone) (e:Fc l h k j st b=true) :
 ∃h' w',k (.ret (.bool b)) h'=true∧h.nx≤h'.nx∧HR P w0 φ h' w'∧(Instr.endRound l' j).run P w= .ok (.bool b) w':=by
 obtain⟨r,h1,e1⟩:=E0 e
 obtain⟨bj,cM,e2⟩:=o8 e1
 obtain⟨b0,d,n,r',q1,q2,q3,q4⟩:=H.loop hl h1
 have:=iM _ _ _ q1
 subst this
 have hU:=q3.kE st j
 refine⟨⟨h.nx,bj⟩,_,e2,Nat.le_refl _,H.Se q1 q2 q4 cM hU, ?_⟩
 rw [run_endRound j q2,hb,kp]
theorem aa4 {rec:Task→Bool}(dE:∀t,rec t=true→ed P w0 t){l:Nat}{args:List Value}{k:CR→AH→Bool}(e:aa5 rec l args h k=true):uy P w0 l args h k:=by
 intro φ args' l' w hl hm qb H
 obtain⟨r,h1,e1⟩:=E0 e
 obtain⟨b0,d,n,r',q1,q2,q3,q4⟩:=H.loop hm h1
 have hb0:=qb _ _ _ q1
 subst hb0
 rw [q3.params]at e1
 obtain⟨hlen,tm,eX,e2⟩:=alf _ q3.small hl q3.tm e1
 have fQ:args'.size=r'.params.size:=by simpa using hlen.symm
 refine⟨r'.fn,_,r'.assign,r'.body,run_yield q2 fQ,fun c cs=> ?_⟩
 rw [alg]
 generalize (r'.params.toList.zip args'.toList).foldl (fun tmps (x:Tmp×Value)=>tmps.setIfInBounds x.1 x.2) r'.tmps=tmps at eX
 let b:Frame:={(default:Frame)with fn:=r'.fn,kind:=.normal,roundOf:=some l'}
 have qj:Frame.round l' r'.fn tmps r'.assign r'.body .normal=b.atR {tmps:=tmps,defers:=[]} [.code r'.assign,.beginRound,.code r'.body]:=by
  simp [Frame.round,Frame.atR,b]
 rw [qj]
 have hE:∀{φ':aO},Ext h.nx φ φ'→nN φ' ⟨r.fn,r.nt,some l⟩ b:=fun {φ'} hE=>⟨q3.fn,rfl,l',rfl,hE.dq hm,fun b d n hh=>qb b d n (hE.live hm hh)⟩
 have hC:ed P w0 (.code r.assign ⟨r.fn,r.nt,some l⟩ ⟨tm,[],.off,h⟩ (SG rec l r k)):=dE _ e2
 obtain⟨x,s1,φ1,fD,a1,w1,g1,g2,g3,g4,g5⟩:=hC r'.assign q3.assign φ b (c::cs) (c::cs) {tmps:=tmps,defers:=[]} w ⟨⟨.nil,⟨rfl,.inl rfl⟩,H⟩,eX⟩ (hE (Ext.refl _ _)) _ (.inl rfl) [.beginRound,.code r'.body]
 cases x with
 | exit id=>cases g1
 | ret=>cases g1
 | aT v=>cases g1
 | normal =>
  have iN:SR P w0 φ1 ⟨r.fn,r.nt,some l⟩ s1 b (c::cs) fD a1 w1:=g4
  have fm:=iN.rc.normal rfl
  subst fm
  obtain⟨r2,k1,g6⟩:=E0 (show pg s1.h l _=true from g1)
  obtain⟨qk,g7⟩:=cI g6
  obtain⟨bj,cM,g8⟩:=o8 g7
  have hm1:φ1 l≠none:=g2.dq hm
  obtain⟨b1,d1,n1,SH,u1,u2,u3,u4⟩:=iN.heap.loop hm1 k1
  have KT:=qb _ _ _ (g2.live hm u1)
  subst KT
  have alh:SH.state= .ready:=by
   rw [u3.state]
   cases hh:r2.state<;>rw [hh]at qk<;>first | rfl | cases qk
  have hU:=u3.kE .busy r2.eE
  rw [show({SH with state:=.busy,pending:=r2.eE}:Loop)={SH with state:=.busy}from by rw [←u3.eE]]at hU
  have H2:=iN.heap.Se u1 u2 u4 cM hU
  have ali:=stepR_beginRound (P:=P) (b:=b) (a:=a1) (k:=[.code r'.body]) (cs:=c::cs) (l:=l') rfl (run_beginRound u2 alh)
  have hC2:ed P w0 (.code r.body ⟨r.fn,r.nt,some l⟩ ⟨s1.tm,s1.df,s1.rc,⟨s1.h.nx,bj⟩⟩ (KU l k)):=dE _ g8
  obtain⟨x,s2,φ2,SI,a2,w2,f1,f2,f3,f4,f5⟩:=hC2 r'.body q3.body φ1 b (c::cs) (c::cs) a1 _ ⟨⟨iN.df,iN.rc,H2⟩,iN.tm⟩ (hE g2) _ (.inl rfl) []
  obtain⟨wy,f1⟩:=SD (show wB s2.df _=true from f1)
  have Fe:Ext h.nx φ φ2:=g2.trans f2 g3
  have zi:φ2 l≠none:=Fe.dq hm
  have SJ:∀b d n,φ2 l=some (.live b d n)→l'=b:=fun b d n hh=>qb b d n (Fe.live hm hh)
  have SK:=Steps.trans g5 (.one ali)
  have hN:h.nx≤s2.h.nx:=Nat.le_trans g3 f3
  cases x with
  | aT v=>cases f1
  | normal =>
   have wD:SR P w0 φ2 ⟨r.fn,r.nt,some l⟩ s2 b (c::cs) SI a2 w2:=f4
   have fm:=wD.rc.normal rfl
   subst fm
   obtain⟨h',w',z1,z2,z3,z4⟩:=SF wD.heap zi SJ rfl rfl f1
   exact⟨_,_,h',φ2,w',z1,Fe,Nat.le_trans hN z2,z3,.bool true,Steps.trans SK (Steps.trans f5 (.one (stepR_round_end rfl rfl z4)))⟩
  | ret =>
   obtain⟨k1,f5⟩:=f5
   have wD:SR P w0 φ2 ⟨r.fn,r.nt,some l⟩ s2 b (c::cs) SI a2 w2:=f4
   have fm:=wD.rc.normal rfl
   subst fm
   obtain⟨h',w',z1,z2,z3,z4⟩:=SF wD.heap zi SJ rfl rfl f1
   exact⟨_,_,h',φ2,w',z1,Fe,Nat.le_trans hN z2,z3,.bool false,Steps.trans SK (Steps.trans f5 (.one (stepR_round_ret rfl rfl z4)))⟩
  | exit id =>
   obtain⟨k1,Sf,f5⟩:=f5
   have wD:SR P w0 φ2 ⟨r.fn,r.nt,some l⟩ s2 b (c::cs) SI a2 w2:=f4
   have fm:=wD.rc.normal rfl
   subst fm
   obtain⟨h',w',z1,z2,z3,z4⟩:=SF wD.heap zi SJ rfl rfl f1
   exact⟨_,_,h',φ2,w',z1,Fe,Nat.le_trans hN z2,z3,.bool false,Steps.trans SK (Steps.trans f5 (.one (stepR_round_exit rfl rfl (by rw [Sf];rfl) z4)))⟩
end
end Go.Ve
namespace Go.Ve
open Go.RowKit
def mi (h h2:AH):Prop:=∀f o,h.ob.get f=some o→h2.ob.get f=some o
theorem mi.refl (h:AH):mi h h:=fun _ _ e=>e
theorem mi.trans {a b c:AH}(h:mi a b) (h':mi b c):mi a c:=fun f o e=>h' f o (h f o e)
def bY (X:AH→KV→Bool):Prop:=∀h k,X h k=true→∃v,k v h=true∧∀h2 k2,mi h h2→k2 v h2=true→X h2 k2=true
theorem NT.Fs {α:Type}:∀(t:NT α) (i:Nat) (k:α→Bool) (x:α),t.get i=some x→t.ey i k=k x
 | .e,i,k,x,h=>by cases h
 | .n l v r,i,k,x,h=>by
  rw [NT.RE]
  rw [NT.get]at h
  cases h0:Nat.beq i 0 with
  | true=>rw [h0]at h;have h':v=some x:=h;rw [h'];rfl
  | false =>
   rw [h0]at h
   cases h1:Nat.beq (Nat.mod i 2) 1 with
   | true=>rw [h1]at h;exact NT.Fs l _ k x h
   | false=>rw [h1]at h;exact NT.Fs r _ k x h
theorem Tt {h:AH}{b:Nat}{o:AO}{k:AO→Bool}(e:h.ob.get b=some o):pk h b k=k o:=by
 cases h;exact NT.Fs _ _ _ _ e
theorem als:∀(n:Nat){c:NT Value}{i:Nat}{l:List Value}{k:List Value→Bool},l.length=n→(∀j v,l[j]? =some v→c.get (i+j)=some v)→qm c i n k=k l:=by
 intro n
 induction n with
 | zero=>intro c i l k hl _;have:l=[]:=List.length_eq_zero_iff.1 hl;subst this;rfl
 | succ n ih =>
  intro c i l k hl hc
  cases l with
  | nil=>cases hl
  | cons v l =>
   have h0:c.get i=some v:=hc 0 v (by simp)
   show NT.ey c i (fun v=>fN (Nat.succ i) fun i'=>qm c i' n fun l=>k (v::l))=k (v::l)
   rw [NT.Fs _ _ _ _ h0,cz]
   exact ih (by simpa using hl) (fun j u hj=>by
    have:=hc (j+1) u (by simpa using hj)
    rw [show i+(j+1)=Nat.succ i+j from by omega]at this
    exact this)
section
variable {X Y:AH→KV→Bool}
theorem mY (v:Value):bY (fun h k=>k v h):=fun _ _ e=>⟨v,e,fun _ _ _ e'=>e'⟩
theorem ef:bY (fun _ _=>false):=fun _ _ e=>by cases e
theorem zp {c:Bool}(hx:bY X):bY (fun h k=>iff c (X h k)):=fun h k e=>by
 obtain⟨rfl,e1⟩:=cI e
 exact hx h k e1
theorem zq {c:Bool}(hx:bY X) (hy:bY Y):bY (fun h k=>bif c then X h k else Y h k):=by
 cases c
 · exact hy
 · exact hx
theorem abO {c:Bool}(hx:bY X) (hy:bY Y):bY (fun h k=>Bool.casesOn (motive:=fun _=>Bool) c (X h k) (Y h k)):=by
 cases c
 · exact hx
 · exact hy
theorem abP {vs:List Value}(hx:bY X):bY (fun h k=>a0 vs (X h k)):=by
 cases vs with
 | nil=>exact hx
 | cons _ _=>exact ef
theorem Ld {vs:List Value}{X:Value→AH→KV→Bool}(hx:∀x,bY (X x)):bY (fun h k=>a1 vs (fun x=>X x h k)):=by
 cases vs with
 | nil=>exact ef
 | cons x vs=>exact abP (hx x)
theorem zr {vs:List Value}{X:Value→Value→AH→KV→Bool}(hx:∀x y,bY (X x y)):bY (fun h k=>a2 vs (fun x y=>X x y h k)):=by
 cases vs with
 | nil=>exact ef
 | cons x vs=>exact Ld (hx x)
theorem abQ {vs:List Value}{X:Value→Value→Value→AH→KV→Bool}(hx:∀x y z,bY (X x y z)):bY (fun h k=>a3 vs (fun x y z=>X x y z h k)):=by
 cases vs with
 | nil=>exact ef
 | cons x vs=>exact zr (hx x)
theorem Ft {n:Nat}{X:Nat→AH→KV→Bool}(hx:∀m,bY (X m)):bY (fun h k=>fN n (fun m=>X m h k)):=by
 simp only [cz];exact hx n
theorem Le {n:Int}{X:Int→AH→KV→Bool}(hx:∀m,bY (X m)):bY (fun h k=>fI n (fun m=>X m h k)):=by
 simp only [ph];exact hx n
theorem Fu {n:Bool}{X:Bool→AH→KV→Bool}(hx:∀m,bY (X m)):bY (fun h k=>fB n (fun m=>X m h k)):=by
 simp only [jV];exact hx n
theorem Tu {v:Value}{X:Nat→Nat→AH→KV→Bool}(hx:∀b o,bY (X b o)):bY (fun h k=>jU v (fun b o=>X b o h k)):=by
 cases v<;>first
  | exact ef
  | (rename_i a;cases a with
   | none=>exact ef
   | some a=>cases a;exact hx _ _)
theorem abR {v:Value}{X:List Value→AH→KV→Bool}(hx:∀l,bY (X l)):bY (fun h k=>uG v (fun l=>X l h k)):=by
 cases v<;>first
  | exact ef
  | (rename_i a;cases a;exact hx _)
theorem abS {v:Value}{X:List Value→AH→KV→Bool}(hx:∀l,bY (X l)):bY (fun h k=>KW v (fun l=>X l h k)):=by
 cases v<;>first
  | exact ef
  | (rename_i a;cases a;exact hx _)
theorem abT {v:Value}{X:Bool→AH→KV→Bool}(hx:∀l,bY (X l)):bY (fun h k=>uH v (fun l=>X l h k)):=by
 cases v<;>first
  | exact ef
  | exact hx _
theorem Lf {v:Value}{X:IntKind→Int→AH→KV→Bool}(hx:∀kd n,bY (X kd n)):bY (fun h k=>lW v (fun kd n=>X kd n h k)):=by
 cases v<;>first
  | exact ef
  | exact hx _ _
theorem Lg {v:Value}{X:Nat→AH→KV→Bool}(hx:∀n,bY (X n)):bY (fun h k=>qn v (fun n=>X n h k)):=by
 cases v<;>first
  | exact ef
  | (rename_i kd n;cases n<;>first | exact hx _ | exact ef)
theorem Fv {v:Value}{X:ByteArray→AH→KV→Bool}(hx:∀l,bY (X l)):bY (fun h k=>ku v (fun l=>X l h k)):=by
 cases v<;>first
  | exact ef
  | exact hx _
theorem Tv {v:Value}{X:Nat→Nat→Nat→Nat→AH→KV→Bool}(hy:bY Y) (hx:∀b o l c,bY (X b o l c)):bY (fun h k=>lX v (Y h k) (fun b o l c=>X b o l c h k)):=by
 cases v<;>first
  | exact ef
  | (rename_i a l c;cases a with
   | none=>exact hy
   | some a=>cases a;exact hx _ _ _ _)
theorem abU {v:Value}{X:Nat→AH→KV→Bool}(hy:bY Y) (hx:∀r,bY (X r)):bY (fun h k=>zk v (Y h k) (fun r=>X r h k)):=by
 cases v<;>first
  | exact ef
  | (rename_i a;cases a with
   | none=>exact hy
   | some a=>exact hx _)
theorem abV {X:Value→AH→KV→Bool}(hx:∀v,bY (X v)):∀{l:List Value}{n:Nat},bY (fun h k=>ql l n (fun v=>X v h k)):=by
 intro l
 induction l with
 | nil=>intro n;exact ef
 | cons a l ih =>
  intro n
  cases n with
  | zero=>exact hx a
  | succ n=>exact ih
theorem abW:∀{l:List Value}{n:Nat}{X:List Value→AH→KV→Bool},(∀v,bY (X v))→bY (fun h k=>sI l n (fun v=>X v h k)):=by
 intro l
 induction l with
 | nil =>
  intro n X hx
  cases n with
  | zero=>exact hx _
  | succ n=>exact ef
 | cons a l ih =>
  intro n X hx
  cases n with
  | zero=>exact hx _
  | succ n=>exact ih (X:=fun v=>X (a::v)) fun v=>hx _
theorem abX {X:List Value→AH→KV→Bool}(hx:∀v,bY (X v)):∀{l:List Value}{n:Nat},bY (fun h k=>sJ l n (fun v=>X v h k)):=by
 intro l
 induction l with
 | nil =>
  intro n
  cases n with
  | zero=>exact hx _
  | succ n=>exact ef
 | cons a l ih =>
  intro n
  cases n with
  | zero=>exact hx _
  | succ n=>exact ih
theorem abY:∀{vs l:List Value}{X:List Value→AH→KV→Bool},(∀v,bY (X v))→bY (fun h k=>mU l vs (fun v=>X v h k)):=by
 intro vs l
 induction l generalizing vs with
 | nil =>
  intro X hx
  cases vs with
  | nil=>exact hx _
  | cons a vs=>exact ef
 | cons a l ih =>
  intro X hx
  cases vs with
  | nil=>exact hx _
  | cons b vs=>exact ih (X:=fun v=>X (b::v)) fun v=>hx _
theorem alu:∀{l:List Value}{n:Nat}{vs:List Value}{X:List Value→AH→KV→Bool},(∀v,bY (X v))→bY (fun h k=>pZ l n vs (fun v=>X v h k)):=by
 intro l
 induction l with
 | nil =>
  intro n vs X hx
  cases n with
  | zero=>exact(abY hx:bY (fun h k=>mU [] vs (fun v=>X v h k)))
  | succ n=>exact ef
 | cons a l ih =>
  intro n vs X hx
  cases n with
  | zero=>exact(abY hx:bY (fun h k=>mU (a::l) vs (fun v=>X v h k)))
  | succ n=>exact ih (X:=fun v=>X (a::v)) fun v=>hx _
theorem Tw:∀{l m:List Value}{X:List Value→AH→KV→Bool},(∀v,bY (X v))→bY (fun h k=>jF l m (fun v=>X v h k)):=by
 intro l
 induction l with
 | nil=>intro m X hx;exact hx _
 | cons a l ih=>intro m X hx;exact ih (X:=fun v=>X (a::v)) fun v=>hx _
theorem Tx:∀{ps:List (Nat×Nat)}{l vs:List Value}{X:List Value→AH→KV→Bool},(∀v,bY (X v))→bY (fun h k=>kF l ps vs (fun v=>X v h k)):=by
 intro ps
 induction ps with
 | nil =>
  intro l vs X hx
  cases vs with
  | nil=>exact hx _
  | cons a vs=>exact ef
 | cons p ps ih =>
  intro l vs X hx
  cases vs with
  | nil=>exact ef
  | cons a vs =>
   obtain⟨off,sz⟩:=p
   exact zq (alu fun l'=>ih hx) ef
theorem abZ:∀{ss:List Nat}{vs:List Value}{X:List Value→AH→KV→Bool},(∀v,bY (X v))→bY (fun h k=>yZ ss vs (fun v=>X v h k)):=by
 intro ss
 induction ss with
 | nil=>intro vs X hx;exact abP (hx [])
 | cons n ss ih =>
  intro vs X hx
  cases vs with
  | nil=>exact ef
  | cons v vs=>exact zp (ih (X:=fun l h k=>jF (cellsOf v) l fun l=>X l h k) fun l=>Tw hx)
theorem sM {b:Bool}{vs:List Value}{d:Nat}{X:Nat→List Value→AH→KV→Bool}(hx:∀n vs,bY (X n vs)):bY (fun h k=>qo b vs d (fun n vs=>X n vs h k)):=by
 cases b with
 | false=>exact hx _ _
 | true =>
  cases vs with
  | nil=>exact ef
  | cons v vs=>exact Lg fun n=>hx n vs
theorem Ty {o:Option Bool}{ng:Bool}:bY (fun h k=>uI o ng (fun v=>k v h)):=by
 cases o with
 | none=>exact ef
 | some b=>exact Fu fun b=>mY _
theorem ab0 {b o:Nat}{X:Value→AH→KV→Bool}(hx:∀v,bY (X v)):bY (fun h k=>sG h b o (fun v=>X v h k)):=fun h k e=>by
 obtain⟨lo,hi,ty,rw,c,v,h1,h2,h3,h4,h5⟩:=KL e
 obtain⟨u,hu,hr⟩:=hx v h k h5
 refine⟨u,hu,fun hh k2 hle hk=> ?_⟩
 show pk hh b _=true
 rw [Tt (hle _ _ h1)]
 show iff (Nat.ble lo o&&Nat.ble (Nat.succ o) hi) (NT.ey c o fun v=>X v hh k2)=true
 rw [NT.Fs _ _ _ _ h4,(iff_eq _ _)]
 exact⟨by simp;exact⟨h2,h3⟩,hr hh k2 hle hk⟩
theorem ab1 {b o n:Nat}{X:List Value→AH→KV→Bool}(hx:∀v,bY (X v)):bY (fun h k=>lU h b o n (fun v=>X v h k)):=fun h k e=>by
 obtain⟨lo,hi,ty,rw,c,l,h1,h2,h3,h4,h5,h6⟩:=wh e
 obtain⟨u,hu,hr⟩:=hx l h k h6
 refine⟨u,hu,fun hh k2 hle hk=> ?_⟩
 show pk hh b _=true
 rw [Tt (hle _ _ h1)]
 show iff (Nat.ble lo o&&Nat.ble (Nat.add o n) hi) (qm c o n fun v=>X v hh k2)=true
 rw [als n h4 h5,(iff_eq _ _)]
 exact⟨by simp;exact⟨h2,h3⟩,hr hh k2 hle hk⟩
theorem ab2 {b:Nat}{X:List (Value×Value×Nat)→Nat→AH→KV→Bool}(hx:∀es cl,bY (X es cl)):bY (fun h k=>lF h b (fun es cl=>X es cl h k)):=fun h k e=>by
 obtain⟨es,cl,h1,h2⟩:=yX e
 obtain⟨u,hu,hr⟩:=hx es cl h k h2
 refine⟨u,hu,fun hh k2 hle hk=> ?_⟩
 show pk hh b _=true
 rw [Tt (hle _ _ h1)]
 exact hr hh k2 hle hk
theorem ab3 {kc : Nat} {X : Option Value → AH → KV → Bool} (hx : ∀ v, bY (X v)) : ∀ {es : List (Value × Value × Nat)} {x : Value}, bY (fun h k => yW kc es x (fun v => X v h k)) := by
  intro es x
  induction es with
  | nil => exact hx none
  | cons p es ih =>
    obtain ⟨a, v, n⟩ := p
    cases hq : nL kc x a with
    | none => simp only [yW, hq]; exact ef
    | some t => cases t <;> simp only [yW, hq]
                · exact ih
                · exact hx _
theorem ab4 {zero:Value}{ok:Bool}{o:Option Value}:bY (fun h k=>Kp zero ok h k o):=by
 cases o<;>cases ok<;>exact mY _
end
theorem ab5 {sz l h m cap:Nat}{SO:Bool}{b o:Nat}:bY (fun hh k=>uJ sz l h m cap SO b o (fun v=>k v hh)):=by
 unfold uJ;repeat (first | exact mY _ | exact ef | exact Ty | exact ab4 | apply zp | apply zq | apply abO | apply Ld | apply zr | apply abQ | apply Ft | apply Le | apply Fu | apply Tu | apply abR | apply abS | apply abT | apply Lg | apply Lf | apply Fv | apply Tv | apply abU | apply abV | apply abW | apply abX | apply Tw | apply Tx | apply abZ | apply sM | apply ab0 | apply ab1 | apply ab2 | apply ab3 | (intro _))
theorem alv {x y:Option Bool}{ng:Bool}:bY (fun h k=>Fh x y ng (fun v=>k v h)):=by
 cases x with
 | none=>cases y<;>exact ef
 | some a =>
  cases y with
  | none=>cases a<;>exact ef
  | some b=>cases a<;>cases b<;>simp only [Fh]<;>first | exact Ty | exact ef
theorem alw {op:BinOp}{a b:ByteArray}:bY (fun h k=>SS op a b (fun v=>k v h)):=by
 cases op<;>first | exact ef | exact Fu fun _=>mY _
theorem alx {op:BinOp}{kd:IntKind}{a b:Int}:bY (fun h k=>SM op kd a b (fun v=>k v h)):=by
 cases op<;>first
  | exact ef
  | exact Fu fun _=>mY _
  | exact Le fun _=>mY _
  | exact zq ef (Le fun _=>mY _)
  | (cases kd<;>first
   | exact ef
   | (cases a<;>cases b<;>first | exact ef | exact zq (Ft fun _=>mY _) ef))
theorem aly {kd:IntKind}{a b:Int}:bY (fun h k=>SN kd a b (fun v=>k v h)):=by
 cases kd<;>first
  | exact ef
  | (cases a<;>cases b<;>first | exact ef | exact zq (Ft fun _=>mY _) ef)
theorem alz {op:BinOp}{kx ky:IntKind}{a b:Int}:bY (fun h k=>SP op kx a ky b (fun v=>k v h)):=by
 cases op<;>first
  | exact ef
  | exact aly
  | exact zp alx
theorem alA {ty:TypeId}{zero x:Value}:bY (fun h k=>RV ty zero x (fun v=>k v h)):=by
 cases x<;>first
  | exact ef
  | exact mY _
  | exact zq (mY _) (mY _)
theorem ab6 (p:Prim) (ha:p.wH=false) (hm:p.makes=false) (vs:List Value):bY (fun h k=>p.ev vs h k):=by
 cases p
 case alloc=>cases hm
 case box=>cases hm
 case buildSlice=>cases hm
 case store=>cases ha
 case Z5 =>
  change bY (fun h k=>KY vs h k);unfold KY
  refine zr fun x i=>Lg fun i=>Fv fun s=> ?_
  cases s.data.toList[i]? with
  | none=>exact ef
  | some c=>exact Ft fun _=>mY _
 case slice sz lo hi mx =>
  change bY (fun h k=>Fi sz lo hi mx vs h k);unfold Fi
  cases vs with
  | nil=>exact ef
  | cons x vs=>exact Tv (sM fun _ _=>sM fun _ _=>zp (mY _)) fun b o len cap=>sM fun l vs=>sM fun hh vs=>sM fun m vs=>zp ab5
 case Z6 n sz lo hi mx =>
  change bY (fun h k=>Fj n sz lo hi mx vs h k);unfold Fj
  cases vs with
  | nil=>exact ef
  | cons x vs=>exact Tu fun b o=>sM fun l vs=>sM fun hh vs=>sM fun m vs=>zp ab5
 case aE op=>change bY (fun h k=>KZ op vs h k);unfold KZ;exact zr fun x y=>Lf fun _ _=>Lf fun _ _=>alz
 case Z7 op=>change bY (fun h k=>K3 op vs h k);unfold K3;exact zr fun x y=>Fv fun _=>Fv fun _=>alw
 case qS nk ng=>change bY (fun h k=>K4 nk ng vs h k);unfold K4;exact zr fun x y=>alv
 case mkMap=>cases ha
 case mkSlice=>cases ha
 case sk=>cases ha
 case append=>cases ha
 case copy=>cases ha
 case Z9 t z=>change bY (fun h k=>Kt t z vs h k);unfold Kt;exact Ld fun x=>alA
 case RH=>cases ha
 case RI=>cases ha
 case x e=>cases ha
 all_goals (simp only [Prim.ev,SU,SV,abn,abo,SW,SY,SZ,S6,S7,S8,S9,Ta,Tb,Tc,abq,Td,Te,Tf,Tg,Th,Ti,Tj,RR,Tk,Tl,Tm,Tn,To,RL,RM];repeat (first | exact mY _ | exact ef | exact Ty | exact ab4 | apply zp | apply zq | apply abO | apply Ld | apply zr | apply abQ | apply Ft | apply Le | apply Fu | apply Tu | apply abR | apply abS | apply abT | apply Lg | apply Lf | apply Fv | apply Tv | apply abU | apply abV | apply abW | apply abX | apply Tw | apply Tx | apply abZ | apply sM | apply ab0 | apply ab1 | apply ab2 | apply ab3 | (intro _)))
end Go.Ve
namespace Go.Ve
open Go.RowKit
def kJ (v u:Value):Prop:=∀φ x,VR φ v x↔VR φ u x
def po (l m:List Value):Prop:=∀φ x,LR φ l x↔LR φ m x
theorem kJ.refl (v:Value):kJ v v:=fun _ _=>Iff.rfl
theorem po.refl (v:List Value):po v v:=fun _ _=>Iff.rfl
theorem kJ.of_eq {v u:Value}(h:v=u):kJ v u:=h▸kJ.refl v
theorem AtR.same {φ:aO}{a b x:Addr}(h1:a.block=b.block) (h2:a.off=b.off) (h:AtR φ a x):AtR φ b x:=fun bl d n hb=>by
 have:=h bl d n (by rw [h1];exact hb)
 rw [h2]at this;exact this
theorem ui.same {φ:aO}{a b x:Addr}{len cap dJ:Nat}(h1:a.block=b.block) (h2:a.off=b.off) (h:ui φ a x len cap dJ):ui φ b x len cap dJ:=by
 rcases h with⟨h3,h4,h5,h6⟩ | ⟨sz,h3,h4,h5,h6⟩
 · exact .inl ⟨h3,h4,h5,fun hp=>(h6 hp).same h1 h2⟩
 · exact .inr ⟨sz,h3,h4,h5,fun hp=>⟨(h6 hp).1.same h1 h2,fun bl d n hb=>(h6 hp).2 bl d n (by rw [h1];exact hb)⟩⟩
theorem kJ.ptr {a b:Addr}(h1:a.block=b.block) (h2:a.off=b.off):kJ (.pointer (some a)) (.pointer (some b)):=fun φ x=>by
 constructor
 · intro h;cases h with | ptr _ a' q1 q2=>exact .ptr _ _ (h1▸q1) (q2.same h1 h2)
 · intro h;cases h with | ptr _ a' q1 q2=>exact .ptr _ _ (h1▸q1) (q2.same h1.symm h2.symm)
theorem kJ.sl {a b:Addr}{l c:Nat}(h1:a.block=b.block) (h2:a.off=b.off):kJ (.slice (some a) l c) (.slice (some b) l c):=fun φ x=>by
 constructor
 · intro h;cases h with | sl _ a' _ _ _ q1 q2=>exact .sl _ _ _ _ _ (h1▸q1) (q2.same h1 h2)
 · intro h;cases h with | sl _ a' _ _ _ q1 q2=>exact .sl _ _ _ _ _ (h1▸q1) (q2.same h1.symm h2.symm)
theorem po.cons {a b:Value}{l m:List Value}(h:kJ a b) (hl:po l m):po (a::l) (b::m):=fun φ x=>by
 constructor
 · intro h';cases h' with | cons _ _ _ _ q1 q2=>exact .cons _ _ _ _ ((h _ _).1 q1) ((hl _ _).1 q2)
 · intro h';cases h' with | cons _ _ _ _ q1 q2=>exact .cons _ _ _ _ ((h _ _).2 q1) ((hl _ _).2 q2)
theorem kJ.agg {l m:List Value}(h:po l m):kJ (.agg ⟨l⟩) (.agg ⟨m⟩):=fun φ x=>by
 constructor
 · intro h';cases h' with | agg _ _ q1=>exact .agg _ _ ((h _ _).1 q1)
 · intro h';cases h' with | agg _ _ q1=>exact .agg _ _ ((h _ _).2 q1)
theorem kJ.iy {l m:List Value}(h:po l m):kJ (.tuple ⟨l⟩) (.tuple ⟨m⟩):=fun φ x=>by
 constructor
 · intro h';cases h' with | iy _ _ q1=>exact .iy _ _ ((h _ _).1 q1)
 · intro h';cases h' with | iy _ _ q1=>exact .iy _ _ ((h _ _).2 q1)
theorem kJ.func {fn:Fn}{a b c d:List Value}(h1:po a c) (h2:po b d):kJ (.func fn ⟨a⟩ ⟨b⟩) (.func fn ⟨c⟩ ⟨d⟩):=fun φ x=>by
 constructor
 · intro h';cases h' with | func _ _ _ _ _ _ q0 q1 q2=>exact .func _ _ _ _ _ _ q0 ((h1 _ _).1 q1) ((h2 _ _).1 q2)
 · intro h';cases h' with | func _ _ _ _ _ _ q0 q1 q2=>exact .func _ _ _ _ _ _ q0 ((h1 _ _).2 q1) ((h2 _ _).2 q2)
theorem ab7 {a b:Value}(h:Lc a b=true):kJ a b:=by
 unfold Lc at h
 split at h
 · rename_i x y;exact .of_eq (by cases x<;>cases y<;>first | rfl | cases h)
 · rename_i kd x kd' y
   cases hk:gK kd kd' with
   | false=>rw [hk]at h;cases h
   | true =>
    rw [hk]at h
    have h':mT x y=true:=h
    rw [ur]at h'
    have:=o5 hk
    have h'':x=y:=by simpa using h'
    exact .of_eq (by rw [this,h''])
 · rename_i x y
   rw [Tz]at h
   have:x.data.toList=y.data.toList:=by simpa using h
   have h2:x=y:=by cases x;cases y;simp only at this;congr 1;exact Array.toList_inj.1 this
   exact .of_eq (by rw [h2])
 · exact .refl _
 · simp only [Bool.and_eq_true,Nat.beq_eq]at h
   exact .ptr h.1 h.2
 · simp only [Bool.and_eq_true,Nat.beq_eq]at h
   exact .of_eq (by rw [h.1,h.2])
 · simp only [Bool.and_eq_true,Nat.beq_eq]at h
   obtain⟨⟨⟨h1,h2⟩,h3⟩,h4⟩:=h
   subst h3;subst h4
   exact .sl h1 h2
 · exact .refl _
 · simp only [Nat.beq_eq]at h
   exact .of_eq (by rw [h])
 · exact .refl _
 · exact .refl _
 · cases h
theorem TA:∀{l m:List Value},Fo l m=true→po l m
 | [],[],_=>.refl _
 | a::l,b::m,h=>by
  simp only [Fo,Bool.and_eq_true]at h
  exact .cons (ab7 h.1) (TA h.2)
 | [],_::_,h=>by cases h
 | _::_,[],h=>by cases h
theorem ab8 {a b:Value}(h:sL a b=true):kJ a b:=by
 unfold sL at h
 split at h
 · simp only [Bool.and_eq_true,Nat.beq_eq]at h
   obtain⟨⟨h1,h2⟩,h3⟩:=h
   subst h1
   exact .func (TA h2) (TA h3)
 · exact ab7 h
theorem Lh:∀{l m:List Value},qp l m=true→po l m
 | [],[],_=>.refl _
 | a::l,b::m,h=>by
  simp only [qp,Bool.and_eq_true]at h
  exact .cons (ab8 h.1) (Lh h.2)
 | [],_::_,h=>by cases h
 | _::_,[],h=>by cases h
theorem alB {a b:Value}(h:rf a b=true):kJ a b:=by
 unfold rf at h
 split at h
 · exact .agg (Lh h)
 · exact .iy (Lh h)
 · exact ab8 h
noncomputable def mZ (g:Option (Pos×Bool)) (t:PT):Bool:=qe g t true false
def jW (t:PT):eL→Value
 | .t p=>t.get p
 | .c v=>v
theorem TB (g:Option (Pos×Bool)) (t:PT) (yes no:Bool):qe g t yes no=bif mZ g t then yes else no:=by
 cases g with
 | none=>rfl
 | some pw =>
  obtain⟨p,want⟩:=pw
  show PT.ey p t (zd want yes no)=bif PT.ey p t (zd want true false)then yes else no
  rw [PT.lz,PT.lz]
  unfold zd
  split
  · cases oo _ want<;>rfl
  · rfl
theorem TC (o:eL) (t:PT) (k:Value→Bool):uB o t k=k (jW t o):=by
 cases o with
 | t p=>exact PT.lz p t k
 | c v=>rfl
theorem B9 (t:PT):∀(l:List eL) (k:List Value→Bool),qd l t k=k (l.map (jW t))
 | [],k=>rfl
 | o::l,k=>by
  show uB o t (fun v=>qd l t fun vs=>k (v::vs))=_
  rw [TC,B9 t l]
  rfl
theorem Fw (d:Option Pos) (s:St) (v:Value) (h:AH) (k:St→Bool):jI d s v h k=k ⟨match d with | none=>s.tm | some p=>s.tm.set p v,s.df,s.rc,h⟩:=by
 cases d with
 | none=>rfl
 | some p=>exact PT.nJ p s.tm v _
def Prim.made (p:Prim) (b:Nat):Value:=match p with
 | .buildSlice _ n _ _=>.slice (some ⟨b,0,none⟩) n n
 | _=>au b 0
theorem ab9:∀(ps:List (Nat×Nat)) (l vs:List Value) (k:List Value→Bool),kF l ps vs k=true→∃m,k m=true∧∀k2,k2 m=true→kF l ps vs k2=true:=by
 intro ps l vs k h
 have hD:=Tx (ps:=ps) (l:=l) (vs:=vs) (X:=fun m h k=>k (.agg ⟨m⟩) h) (fun m=>mY _)
 obtain⟨v,h1,h2⟩:=hD ⟨0,.e⟩ (fun v _=>match v with | .agg ⟨m⟩=>k m | _=>false) h
 cases v with
 | agg a =>
  obtain⟨m⟩:=a
  exact⟨m,h1,fun k2 hk=>h2 ⟨0,.e⟩ (fun v _=>match v with | .agg ⟨m⟩=>k2 m | _=>false) (mi.refl _) hk⟩
 | _=>cases h1
end Go.Ve
namespace Go.Ve
open Go.RowKit
section
variable {P:Program}{w0 w:World}{φ:aO}{h:AH}{ρ:Operand→Value}{o:Oper}{vs:List Value}
def Fx (p:Prim) (vs:List Value) (ty:TypeId) (l:List Value):Prop:=∀k2:TypeId→List Value→Bool,k2 ty l=true→p.fresh vs k2=true
theorem alC {p:Prim}{k:TypeId→List Value→Bool}(e:p.fresh vs k=true):∃ty l,k ty l=true∧Fx p vs ty l:=by
 cases p with
 | alloc ty zero =>
  obtain⟨rfl,e1⟩:=wj (show a0 vs (k ty zero)=true from e)
  exact⟨ty,zero,e1,fun k2 hk=>hk⟩
 | box ty =>
  obtain⟨v,rfl,e1⟩:=fy (show a1 vs (fun v=>k ty (cellsOf v))=true from e)
  exact⟨ty,cellsOf v,e1,fun k2 hk=>hk⟩
 | buildSlice ty n cells places =>
  obtain⟨m,e1,e2⟩:=ab9 _ _ _ _ (show kF cells places vs (fun l=>k ty l)=true from e)
  exact⟨ty,m,e1,fun k2 hk=>e2 (fun l=>k2 ty l) hk⟩
 | _=>cases e
theorem alD {p:Prim}(hm:p.makes=true){k:KV}(e:p.ev vs h k=true):∃ty l c bj,Fx p vs ty l∧(∀v∈l,fR v=true)∧(∀j v,l[j]? =some v→c.get j=some v)∧h.ob.ko h.nx (some (.cells 0 l.length ty true c)) bj∧k (p.made h.nx) ⟨h.nx+1,bj⟩=true:=by
 cases p with
 | alloc ty zero =>
  obtain⟨rfl,e1⟩:=wj (show a0 vs _=true from e)
  obtain⟨h1,c,bj,h2,h3,h4⟩:=uo e1
  exact⟨ty,zero,c,bj,fun k2 hk=>hk,h1,h2,h3,h4⟩
 | box ty =>
  obtain⟨v,rfl,e1⟩:=fy (show a1 vs _=true from e)
  obtain⟨h1,c,bj,h2,h3,h4⟩:=uo e1
  exact⟨ty,cellsOf v,c,bj,fun k2 hk=>hk,h1,h2,h3,h4⟩
 | buildSlice ty n cells places =>
  obtain⟨m,e1,e2⟩:=ab9 _ _ _ _ (show kF cells places vs _=true from e)
  obtain⟨h1,c,bj,h2,h3,h4⟩:=uo e1
  exact⟨ty,m,c,bj,fun k2 hk=>e2 (fun l=>k2 ty l) hk,h1,h2,h3,h4⟩
 | _=>cases hm
theorem acd {p:Prim}{xs:List Operand}(hc:nM P o=some (.aU p,xs)) (hm:p.makes=true) :
 (∃ty z,o.op= .alloc ty∧zeroOf P ty=some z∧p= .alloc ty z.cells.toList∧xs=[])∨(∃ty x,o.op= .box ty x∧p= .box ty∧xs=[x])∨
 (∃t e' n s parts z,o.op= .buildSlice t n parts∧P.underlying t=some (.slice e')∧zeroOf P e'=some z∧fo P e'=some s∧n*s≤65536∧z.cells.size=s∧0<s∧
  p= .buildSlice e' n (kT n z.cells.toList) (parts.toList.map fun p=>(p.1*s,s))∧xs=parts.toList.map (·.2)):=by
 cases aY:o.op<;>simp only [nM,aY]at hc
 case alloc ty =>
  split at hc
  · rename_i z hz;cases hc;exact .inl ⟨ty,z,rfl,hz,rfl,rfl⟩
  · cases hc
 case box ty x=>cases hc;exact .inr (.inl ⟨ty,x,rfl,rfl,rfl⟩)
 case buildSlice t len parts =>
  split at hc
  · rename_i e' hu
    split at hc
    · rename_i s z hs hz
      split at hc
      · rename_i hg
        cases hc
        simp only [Bool.and_eq_true,decide_eq_true_eq,beq_iff_eq]at hg
        exact .inr (.inr ⟨t,e',len,s,parts,z,rfl,hu,hz,hs,hg.1.1,hg.1.2,hg.2,rfl,rfl⟩)
      · cases hc
    · cases hc
  · cases hc
 all_goals ((repeat' split at hc)<;>first | (cases hc;done) | (cases hc;cases hm;done) | (cases hc;unfold za at hm;split at hm<;>cases hm))
theorem alE {p:Prim}{xs:List Operand}{ty:TypeId}{l:List Value}(hc:nM P o=some (.aU p,xs)) (hm:p.makes=true) (hv:LR φ vs (xs.map ρ)) (hf:Fx p vs ty l) :
    ∃l',LR φ l l'∧(execOp ρ o).run P w= .ok (.value (p.made w.heap.size)) (w.alloc (.cells l'.toArray ty)):=by
  classical
  have hd:=hf (fun cJ l'=>decide (cJ=ty∧l'=l)) (by simp)
  rcases acd hc hm with⟨cJ,z,ho,hz,rfl,rfl⟩ | ⟨cJ,x,ho,rfl,rfl⟩ | ⟨t,e',n,s,parts,z,ho,hu,hz,hs,hle,nK,h0,rfl,rfl⟩
  · obtain⟨rfl,e1⟩:=wj (show a0 vs _=true from hd)
    obtain⟨rfl,rfl⟩:cJ=ty∧z.cells.toList=l:=by simpa using e1
    obtain⟨i,hi,hz,gB⟩:=pX hz
    refine⟨z.cells.toList,VR.cells (qX gB), ?_⟩
    simp [execOp,ho,Instr.alloc,sx hi hz,newVar,newRow,World.alloc_eq,Prim.made,au]
  · obtain⟨v,rfl,e1⟩:=fy (show a1 vs (fun v=>decide (cJ=ty∧cellsOf v=l))=true from hd)
    obtain⟨rfl,rfl⟩:cJ=ty∧cellsOf v=l:=by simpa using e1
    obtain⟨a',ha,hr⟩:=hv.one
    simp at ha;subst ha
    rw [BO]
    refine⟨_,VR.cells hr, ?_⟩
    simp [execOp,ho,Instr.box,newVar,newRow,World.alloc_eq,Prim.made,au]
  · obtain⟨i,hi,oi,gB⟩:=pX hz
    obtain⟨i2,gJ,qV⟩:=mP hs
    rw [hi]at gJ;cases gJ
    subst qV
    have pb:(parts.map fun(i,x)=>(i,ρ x)).toList.map (fun p=>some (p.1*i.size,i.size))=(parts.toList.map fun p=>(p.1*i.size,i.size)).map some:=by simp [Function.comp_def]
    have uw:LR φ vs ((parts.map fun(i,x)=>(i,ρ x)).toList.map (·.2)):=by simpa [Function.comp_def]using hv
    obtain⟨r,r',q1,q2,q3⟩:=Kw (place:=fun j=>some (j*i.size,i.size)) (show kF _ _ vs (fun l'=>decide (e'=ty∧l'=l))=true from hd) (LR.Ko (VR.cells (qX (φ:=φ) gB)) n) uw pb
    obtain⟨rfl,rfl⟩:e'=ty∧r=l:=by simpa using q1
    have js:((Array.range (n*i.size)).map fun j=>z.cells[j % z.cells.size]!)=(kT n z.cells.toList).toArray:=by
      apply Array.ext'
      have:=RQ z.cells (by omega) n
      rw [←nK]
      simpa [madeCells]using this
    have wm:Instr.fill (fun j=>some (j*i.size,i.size)) (kT n z.cells.toList).toArray (List.map (fun x=>(x.fst,ρ x.snd)) parts.toList)=some r'.toArray:=by simpa using q3
    refine⟨r',q2, ?_⟩
    have Ex:¬(16777216<n*i.size):=by omega
    simp only [execOp,ho,Instr.buildSlice,Sem.run_bind,run_underlying hu,Result.andThen_ok,kD hi]
    by_cases oj:n*i.size=0
    · have Ey:((Array.range (n*i.size)).map fun j=>(#[]:Array Value)[j % (#[]:Array Value).size]!)=(kT n z.cells.toList).toArray:=by
        rw [←js,oj];simp [Array.range_zero']
      simp [Ex,oj]
      simp [oj]at Ey
      rw [Ey]
      rw [wm]
      simp [newRow,World.alloc_eq,Prim.made]
    · simp [Ex,oj,sx hi oi]
      rw [js,wm]
      simp [newRow,World.alloc_eq,Prim.made]
theorem alF {p:Prim}{xs:List Operand}(hc:nM P o=some (.aU p,xs)) (hm:p.makes=true) (f B n:Nat):VR (φ.put f (.live B 0 n)) (p.made f) (p.made B):=by
 rcases acd hc hm with⟨cJ,z,ho,hz,rfl,rfl⟩ | ⟨cJ,x,ho,rfl,rfl⟩ | ⟨t,e',n',s,parts,z,ho,hu,hz,hs,hle,nK,h0,rfl,rfl⟩
 · exact PR.BN
 · exact PR.BN
 · refine .sl _ _ _ _ _ (by simp [aO.put]) (.inl ⟨by unfold bg;have:n'≤n'*s:=Nat.le_mul_of_pos_right n' h0;omega,rfl,Nat.le_refl _,fun _ b d m hl=> ?_⟩)
   simp only [aO.jG]at hl
   cases hl
   exact⟨rfl,rfl,rfl⟩
theorem alG {p:Prim}(b:Nat) (k:Nat→Bool):Tr (p.made b) k=k b:=by
 unfold Prim.made
 split<;>rfl
end
end Go.Ve
namespace Go.Ve
open Go.RowKit
section
variable {P:Program}{w0 w:World}{φ:aO}{nt:Nat}{ops:Array Oper}{as:Array bS}
theorem alH {α β:Type}{f:α→Option β}:∀{xs:List α}{ys:List β},xs.mapM f=some ys→ys.length=xs.length∧∀(i:Nat) (x:α),xs[i]? =some x→∃y,ys[i]? =some y∧f x=some y:=by
 intro xs
 induction xs with
 | nil=>intro ys h;simp at h;subst h;exact⟨rfl,fun i x hx=>by simp at hx⟩
 | cons a xs ih =>
  intro ys h
  rw [List.mapM_cons]at h
  cases ha:f a with
  | none=>simp [ha]at h
  | some b =>
   cases hs:xs.mapM f with
   | none=>simp [ha,hs]at h
   | some bs =>
    simp [ha,hs]at h
    subst h
    obtain⟨h1,h2⟩:=ih hs
    refine⟨by simp [h1],fun i x hx=> ?_⟩
    cases i with
    | zero=>simp at hx;subst hx;exact⟨b,by simp,ha⟩
    | succ i=>simp at hx;obtain⟨y,h3,h4⟩:=h2 i x hx;exact⟨y,by simpa using h3,h4⟩
structure ou (P:Program) (nt:Nat) (ops:Array Oper) (as:Array bS):Prop where
 size:as.size=ops.size
 get:∀(i:Nat) (o:Oper),ops[i]? =some o→∃ao,as[i]? =some ao∧pe P nt ops o=some ao
theorem alI {l:List bS}(h:EU P nt ops=some l):ou P nt ops l.toArray:=by
 obtain⟨h1,h2⟩:=alH h
 refine⟨by simpa using h1,fun i o ho=> ?_⟩
 obtain⟨y,h3,h4⟩:=h2 i o (by simpa using ho)
 exact⟨y,by simpa using h3,h4⟩
theorem ou.op (h:ou P nt ops as){i:Nat}{ao:bS}(ha:as[i]? =some ao):∃o,ops[i]? =some o∧pe P nt ops o=some ao:=by
 have bJ:i<ops.size:=by rw [←h.size];exact(Array.getElem?_eq_some_iff.1 ha).1
 obtain⟨Fy,h1,h2⟩:=h.get i ops[i] (by simp [bJ])
 rw [ha]at h1;cases h1
 exact⟨ops[i],by simp [bJ],h2⟩
theorem ou.lt (h:ou P nt ops as){i:Nat}{ao:bS}(ha:as[i]? =some ao):i<ops.size:=by rw [←h.size];exact(Array.getElem?_eq_some_iff.1 ha).1
def jX (as:Array bS) (j:Nat):Option Pos:=(as[j]?).bind (·.dst)
theorem ace {l:List Pos}{p:Pos}:Li l p=true↔p∈l:=by
 unfold Li
 rw [List.any_eq_true]
 constructor
 · rintro⟨x,h1,h2⟩;rw [Pos.beq_iff.1 h2];exact h1
 · intro h;exact⟨p,h,Pos.beq_iff.2 rfl⟩
theorem acf (hr:ou P nt ops as) (h:uM ops as=true){i j:Nat}{d:Pos}(hi:jX as i=some d) (hj:jX as j=some d):i=j:=by
 unfold jX at hi hj
 cases gC:as[i]? with
 | none=>rw [gC]at hi;cases hi
 | some ai =>
  cases fp:as[j]? with
  | none=>rw [fp]at hj;cases hj
  | some aj =>
   have h1:=List.all_eq_true.1 h j (List.mem_range.2 (hr.lt fp))
   rw [hj]at h1
   have h2:=List.all_eq_true.1 h1 i (List.mem_range.2 (hr.lt gC))
   simp only [gC]at h2
   rw [gC]at hi
   have dK:ai.dst=some d:=hi
   simp only [dK,Bool.and_eq_true,Bool.or_eq_true,beq_iff_eq]at h2
   rcases h2.1 with h3 | h3
   · exact h3
   · rw [Pos.beq_iff.2 rfl]at h3;cases h3
theorem alJ (hr:ou P nt ops as) (h:uM ops as=true){i j:Nat}{a:bS}{d:Pos}(hi:as[i]? =some a) (hd:d∈a.reads) (hj:jX as j=some d):i=j∨j∈gh ops i∨i∈gh ops j:=by
 cases fp:as[j]? with
 | none=>unfold jX at hj;rw [fp]at hj;cases hj
 | some aj =>
  have h1:=List.all_eq_true.1 h j (List.mem_range.2 (hr.lt fp))
  unfold jX at hj
  rw [hj]at h1
  have h2:=List.all_eq_true.1 h1 i (List.mem_range.2 (hr.lt hi))
  simp only [hi,Bool.and_eq_true,Bool.or_eq_true,beq_iff_eq,ace.2 hd,Bool.not_true,Bool.false_eq_true,false_or,List.contains_iff_mem]at h2
  rcases h2.2 with(h3 | h3) | h3
  · exact .inl h3
  · exact .inr (.inl h3)
  · exact .inr (.inr h3)
theorem TF (hr:ou P nt ops as){i j:Nat}{a:bS}{d:Pos}(hi:as[i]? =some a) (hd:d∈a.reads) (hj:jX as j=some d) (hn:j∉gh ops i):sN ops as j=true:=by
 unfold jX at hj
 cases fp:as[j]? with
 | none=>rw [fp]at hj;cases hj
 | some aj =>
  unfold sN
  rw [fp]
  have:TG ops as j=true:=by
   unfold TG
   rw [hj]
   refine List.any_eq_true.2 ⟨i,List.mem_range.2 (hr.lt hi), ?_⟩
   simp only [hi,ace.2 hd,Bool.true_and,Bool.not_eq_true',List.contains_eq_mem,decide_eq_false_iff_not]
   exact hn
  simp [this]
theorem acg {j:Nat}(h:sN ops as j=false):∃a d,as[j]? =some a∧a.act.wH=false∧a.dst=some d:=by
 unfold sN at h
 cases fp:as[j]? with
 | none=>rw [fp]at h;cases h
 | some a =>
  rw [fp]at h
  simp only [Bool.or_eq_false_iff]at h
  cases hd:a.dst with
  | none=>rw [hd]at h;simp at h
  | some d=>exact⟨a,d,rfl,h.1.1,hd⟩
theorem alK {a:kB}(h:a.wH=false):∃p,a= .aU p∧p.wH=false:=by
 cases a with
 | aU p=>exact⟨p,rfl,h⟩
 | _=>cases h
inductive uN (ops:Array Oper):List Nat→Prop where
 | nil:uN ops []
 | cons (i:Nat) (l:List Nat) (h1:i∉l) (h2:∀p∈gh ops i,p∈l) (hl:uN ops l):uN ops (i::l)
theorem uN.closed {l:List Nat}(h:uN ops l):∀j∈l,∀p∈gh ops j,p∈l:=by
 induction h with
 | nil=>intro j hj;cases hj
 | cons i l h1 h2 hl ih =>
  intro j hj p hp
  rcases List.mem_cons.1 hj with rfl | hj
  · exact List.mem_cons_of_mem _ (h2 p hp)
  · exact List.mem_cons_of_mem _ (ih j hj p hp)
theorem uN.first {l:List Nat}(h:uN ops l){u:Nat→Bool}:(∃x∈l,u x=true)→∃r∈l,u r=true∧∀p∈gh ops r,u p=false:=by
 induction h with
 | nil=>rintro⟨x,hx,_⟩;cases hx
 | cons i l h1 h2 hl ih =>
  rintro⟨x,hx,hu⟩
  by_cases hex:∃y∈l,u y=true
  · obtain⟨r,q1,q2,q3⟩:=ih hex
    exact⟨r,List.mem_cons_of_mem _ q1,q2,q3⟩
  · rcases List.mem_cons.1 hx with rfl | hx
    · refine⟨x,List.mem_cons_self,hu,fun p hp=> ?_⟩
      cases hup:u p with
      | false=>rfl
      | true=>exact absurd ⟨p,h2 p hp,hup⟩ hex
    · exact absurd ⟨x,hx,hu⟩ hex
theorem alL {good:Nat→Prop}(hg:∀j,good j→∀p∈gh ops j,good p):∀(done S:List Nat),(∀j∈S,good j)→∀j∈wI ops S done,good j:=by
 intro done
 induction done with
 | nil=>intro S hS j hj;exact hS j hj
 | cons i done ih =>
  intro S hS j hj
  unfold wI at hj
  split at hj
  · rename_i hc
    have hi:=hS i (by simpa using hc)
    exact ih _ (fun q hq=>by
     rcases List.mem_append.1 hq with hq | hq
     · exact hg i hi q hq
     · exact hS q hq) j hj
  · exact ih _ hS j hj
theorem alM {e:Env}{s:St}{k:KS}{rec:Task→Bool}{r:List kC}:∀{late:List Nat}{cs:List kC},Fz as late=some cs→qg rec (cs++r) e s k=true→(∀j∈late,∃a,as[j]? =some a∧B8 a s=true)∧qg rec r e s k=true:=by
 intro late
 induction late with
 | nil=>intro cs hc h;cases hc;exact⟨fun j hj=>(by cases hj),h⟩
 | cons j late ih =>
  intro cs hc h
  unfold Fz at hc
  split at hc
  · rename_i a r' ha hr
    cases hc
    obtain⟨h1,h2⟩:=cI (show iff (B8 a s) (qg rec (r'++r) e s k)=true from h)
    obtain⟨h3,h4⟩:=ih hr h2
    refine⟨fun i hi=> ?_,h4⟩
    rcases List.mem_cons.1 hi with rfl | hi
    · exact⟨a,ha,h1⟩
    · exact h3 i hi
  · cases hc
end
end Go.Ve
namespace Go.Ve
open Go.RowKit
section
variable {P:Program}{w0 w:World}{φ:aO}{nt:Nat}{ops:Array Oper}{as:Array bS}{s:St}{b:Frame}{cs0 cs:List Frame}{a:Act}{o:Oper}{ao:bS}{d:Pos}{N:Nat}
inductive qs (N:Nat) (s:St) (φ:aO) (ao:bS) (d:Pos):Prop where
 | off (h:mZ ao.guard s.tm=false) (hu:s.tm.get d=undef)
 | val (p:Prim) (h:mZ ao.guard s.tm=true) (ha:ao.act= .aU p) (sO:p.wH=false) (hm:p.makes=false) (v:Value) (hv:kJ v (s.tm.get d))
  (hd:∀h2 k2,mi s.h h2→k2 v h2=true→p.ev (ao.args.map (jW s.tm)) h2 k2=true)
 | made (p:Prim) (h:mZ ao.guard s.tm=true) (ha:ao.act= .aU p) (hm:p.makes=true) (f:Nat) (ty:TypeId) (l m:List Value) (c:NT Value) (hf:Fx p (ao.args.map (jW s.tm)) ty l)
  (hs:s.tm.get d=p.made f) (ho:s.h.ob.get f=some (.cells 0 l.length ty true c)) (hc:∀(j:Nat) (v:Value),m[j]? =some v→c.get j=some v) (wJ:po l m) (hlen:m.length=l.length) (hφ:φ f=none) (hn:f<s.h.nx) (hN:N≤f)
def uO (s:St) (ao:bS) (d:Pos) (f:Nat):Prop:=∃p,ao.act= .aU p∧p.makes=true∧mZ ao.guard s.tm=true∧s.tm.get d=p.made f
theorem ach {p q:Prim}{f g:Nat}(h:p.made f=q.made g):f=g:=by
 unfold Prim.made au at h
 split at h<;>split at h<;>first | (cases h;rfl) | cases h
theorem alN {i:Nat}(hc:pe P nt ops o=some ao) (hr:∀p∈ao.reads,VR φ (s.tm.get p) (a.tmps.getD p.un undef)):Region.wanted o (yielded ops a.tmps)=mZ ao.guard s.tm:=by
  obtain⟨act,xs,args,h1,h2,rfl,rfl,h4,h5⟩:=BW hc
  rcases h5 with⟨g1,g2⟩ | ⟨g,want,t,g1,g2,g3⟩
  · rw [g2];simp [Region.wanted,g1];rfl
  · have hp:VR φ (s.tm.get (Pos.of t)) (a.tmps.getD t undef):=by
      have:=hr (Pos.of t) (by unfold bS.reads;rw [g3];simp)
      rw [Pos.mM]at this
      exact this
    rw [g3]
    cases hw:mZ (some (Pos.of t,want)) s.tm with
    | true =>
      rcases R9 (φ:=φ) (yes:=true) (no:=false) g1 g2 hp hw with⟨q,_⟩ | ⟨_,q⟩
      · exact q
      · cases q
    | false =>
      have nP:qe (some (Pos.of t,want)) s.tm false true=true:=by rw [TB,hw];rfl
      rcases R9 (φ:=φ) g1 g2 hp nP with⟨_,q⟩ | ⟨q,_⟩
      · cases q
      · exact q
theorem alO {xs:List Operand}{ys:List eL}(hm:xs.mapM qc=some ys) (hr:∀p,eL.t p∈ys→VR φ (s.tm.get p) (a.tmps.getD p.un undef)):LR φ (ys.map (jW s.tm)) (xs.map a.eval):=by
 classical
 obtain⟨vs,h1,h2⟩:=aaM (a:=a) (s:=s) (φ:=φ) (k:=fun vs=>decide (vs=ys.map (jW s.tm))) hm hr (by rw [B9];simp)
 have:vs=ys.map (jW s.tm):=by simpa using h2
 rw [←this];exact h1
theorem alP {i:Nat}{rest:List Nat}{todo:List Item}(hc:pe P nt ops o=some ao) (ho:ops[i]? =some o) (hr:∀p∈ao.reads,VR φ (s.tm.get p) (a.tmps.getD p.un undef)) (H:HR P w0 φ s.h w) (hp:qs N s φ ao d) :
 ∃v' w' φ',Steps P (lone (b.atR a (.inRegion ops (i::rest)::todo)) cs w) (lone (b.atR (a.put o.dst v') (.inRegion ops rest::todo)) cs w')∧VR φ' (s.tm.get d) v'∧HR P w0 φ' s.h w'∧(N≤s.h.nx→Ext N φ φ')∧
  (∀f,f<s.h.nx→φ f=none→¬uO s ao d f→φ' f=none):=by
 classical
 have hg:=alN (i:=i) hc hr
 obtain⟨act,xs,args,h1,h2,rfl,rfl,h4,h5⟩:=BW hc
 have lx:LR φ (ao.args.map (jW s.tm)) (xs.map a.eval):=alO h2 fun p hp=>hr p (by
  unfold bS.reads
  exact List.mem_append_left _ (List.mem_filterMap.2 ⟨.t p,hp,rfl⟩))
 cases hp with
 | off hw hu =>
  rw [hw]at hg
  refine⟨undef,w,φ,.one ?_,by rw [hu];exact VR.undef φ,H,fun _=>Ext.refl _ _,fun f _ h _=>h⟩
  have:=stepR_op_skip (P:=P) (b:=b) (a:=a) (k:=todo) (cs:=cs) (w:=w) (ops:=ops) (i:=i) (rest:=rest) (by simp [ho,hg])
  rw [ho]at this
  exact this
 | val p hw ha sO hm v hv hd =>
  rw [hw]at hg
  rw [ha]at h1
  rcases h1 with h1 | ⟨h1,_⟩
  rotate_left
  · cases h1;cases sO
  obtain⟨v',w',u,h',φ',q1,q2,q3,q4,q5,q6⟩:=aax (fun _=>rfl) h1 H lx (hd s.h (fun u h'=>decide (u=v∧h'=s.h)) (mi.refl _) (by simp))
  obtain⟨rfl,rfl⟩:u=v∧h'=s.h:=by simpa using q2
  refine⟨v',w',φ', ?_,(hv _ _).1 q5,q6,fun hN=>q3.mono hN,fun f hf h _=>q3.out f hf h⟩
  have hs:=uA (b:=b) (a:=a) (R4 h1)
  rcases q1 with q1 | ⟨q1,rfl⟩
  · exact .one (RZ ho hg (by rw [hs];exact q1))
  · exact .one (aaD ho hg (by rw [hs];exact q1))
 | made p hw ha hm f ty l m c hf Lj hob TH wJ hlen hφ hn hN =>
  rw [hw]at hg
  rw [ha]at h1
  rcases h1 with h1 | ⟨h1,_⟩
  rotate_left
  · cases h1;cases hm
  obtain⟨l',iM,cD⟩:=alE (w:=w) h1 hm lx hf
  have qt:LR φ m l':=(wJ _ _).1 iM
  have awg:l.length=l'.length:=iM.length
  obtain⟨H2,hE⟩:=H.newAt (f:=f) (h':=s.h) (o':=.cells l'.toArray ty) (d:=0) (n:=l'.length) hφ hob (fun _ _ _=>rfl) H.fresh H.top hn N hN (.cells _ _ _ _ _ _ _ _ _ (fun _=>rfl) (Nat.le_refl _) (by simp) fun q _ hq=>by
   have hqm:q<m.length:=by omega
   obtain⟨u,hu,hru⟩:=LR.get qt q _ (List.getElem?_eq_getElem hqm)
   exact⟨m[q],u,TH q _ (List.getElem?_eq_getElem hqm),by simpa using hu,hru⟩)
  refine⟨p.made w.heap.size,_,_,.one (RZ ho hg (by rw [uA (R4 h1)];exact cD)), ?_,H2,fun _=>hE,fun g rh h dr=> ?_⟩
  · rw [Lj];exact alF h1 hm _ _ _
  · have:g≠f:=fun e=>dr ⟨p,ha,hm,hw,by rw [e];exact Lj⟩
    rw [aO.jK _ _ this];exact h
end
end Go.Ve
namespace Go.Ve
open Go.RowKit
section
variable {P:Program}{w0 w:World}{φ:aO}{nt:Nat}{ops:Array Oper}{as:Array bS}{s:St}{b:Frame}{cs0 cs:List Frame}{a:Act}{N:Nat}{done eE:List Nat}{L:Array Bool}
structure Inv (P:Program) (w0:World) (N nt:Nat) (ops:Array Oper) (as:Array bS) (b:Frame) (cs0:List Frame) (done eE:List Nat) (L:Array Bool) (φ:aO) (s:St) (cs:List Frame) (a:Act) (w:World):Prop where
 size:L.size=ops.size
 sub:∀j,L.getD j false=true→j∈done
 late:∀j∈done,L.getD j false=false→j∈eE
 Ca:∀j∈eE,sN ops as j=false∧j∈done
 closed:∀j,L.getD j false=true→∀p∈gh ops j,L.getD p false=true
 zt:uN ops done
 lt:∀j∈done,j<ops.size
 sq:SQ P w0 φ s b cs0 cs a w
 wK:nt≤a.tmps.size
 Cb:∀p:Pos,(∀j∈done,L.getD j false=false→jX as j≠some p)→VR φ (s.tm.get p) (a.tmps.getD p.un undef)
 prom:∀j∈done,L.getD j false=false→∀(ao:bS) (d:Pos),as[j]? =some ao→ao.dst=some d→qs N s φ ao d
 Lk:∀i∈done,∀j∈done,L.getD i false=false→L.getD j false=false→i≠j→∀(ao Fy:bS) (d d':Pos) (f:Nat),as[i]? =some ao→as[j]? =some Fy→ao.dst=some d→Fy.dst=some d'→uO s ao d f→uO s Fy d' f→False
 nx:N≤s.h.nx
theorem Inv.reads (I:Inv P w0 N nt ops as b cs0 done eE L φ s cs a w) (hr:ou P nt ops as) (hs:uM ops as=true){i:Nat}{ao:bS}(hi:as[i]? =some ao) (hb:∀p∈gh ops i,L.getD p false=true) (nQ:i∈done→sN ops as i=false) (p:Pos) (hp:p∈ao.reads) :
 VR φ (s.tm.get p) (a.tmps.getD p.un undef):=by
 refine I.Cb p fun j hj lY qf=> ?_
 by_cases hjb:j∈gh ops i
 · rw [hb j hjb]at lY;cases lY
 · have aci:=TF hr hi hp qf hjb
   rw [(I.Ca j (I.late j hj lY)).1]at aci
   cases aci
theorem uP (L:Array Bool) (i j:Nat) (hi:i<L.size):(L.setIfInBounds i true).getD j false=if j=i then true else L.getD j false:=by
 by_cases h:j=i
 · subst h;simp [hi]
 · rw [if_neg h];exact getD_set_ne false (Ne.symm h)
theorem qs.ext {N:Nat}{φ':aO}{ao:bS}{d:Pos}(h:qs N s φ ao d) (hE:∀f,f<s.h.nx→φ f=none→uO s ao d f→φ' f=none):qs N s φ' ao d:=by
 cases h with
 | off h hu=>exact .off h hu
 | val p h ha sO hm v hv hd=>exact .val p h ha sO hm v hv hd
 | made p h ha hm f ty l m c hf hs ho hc wJ hlen hφ hn hN=>exact .made p h ha hm f ty l m c hf hs ho hc wJ hlen (hE f hn hφ ⟨p,ha,hm,h,hs⟩) hn hN
theorem Inv.exec (I:Inv P w0 N nt ops as b cs0 done eE L φ s cs a w) (hr:ou P nt ops as) (hs:uM ops as=true){i:Nat}(hi:i∈done) (lY:L.getD i false=false) (hb:∀p∈gh ops i,L.getD p false=true){rest:List Nat}{todo:List Item} :
 ∃φ' a' w',Steps P (lone (b.atR a (.inRegion ops (i::rest)::todo)) cs w) (lone (b.atR a' (.inRegion ops rest::todo)) cs w')∧Ext N φ φ'∧Inv P w0 N nt ops as b cs0 done eE (L.setIfInBounds i true) φ' s cs a' w':=by
 have bJ:=I.lt i hi
 have nQ:=(I.Ca i (I.late i hi lY)).1
 obtain⟨ao,d,gC,acj,hd⟩:=acg nQ
 obtain⟨o,ho,hc⟩:=hr.op gC
 have hP:=I.prom i hi lY ao d gC hd
 obtain⟨v',w',φ',h1,h2,h3,h4,h5⟩:=alP (b:=b) (cs:=cs) (rest:=rest) (todo:=todo) hc ho (I.reads hr hs gC hb (fun _=>nQ)) I.sq.heap hP
 have hE:=h4 I.nx
 obtain⟨act,xs,args,e1,e2,e3,e4,e5,e6⟩:=BW hc
 obtain⟨dn,ET,Ll,pq⟩:∃dn,o.dst=some dn∧dn<nt∧d=Pos.of dn:=by
  rcases e5 with⟨_,q⟩ | ⟨dn,q1,q2,q3⟩
  · rw [q]at hd;cases hd
  · rw [q3]at hd;cases hd;exact⟨dn,q1,q2,rfl⟩
 have ack:d.un=dn:=by rw [pq,Pos.mM]
 have qf:jX as i=some d:=by unfold jX;rw [gC];exact hd
 have cM:=fun j=>uP L i j (by rw [I.size];exact bJ)
 refine⟨φ',a.put o.dst v',w',h1,hE, ?_⟩
 refine⟨by simp [I.size], ?_, ?_,I.Ca, ?_,I.zt,I.lt,⟨by rw [Act.KD];exact I.sq.df.ext hE,I.sq.rc.ext hE,h3⟩,by rw [ET];simpa [Act.put]using I.wK, ?_, ?_, ?_,I.nx⟩
 · intro j hj
   rw [cM]at hj
   split at hj
   · rename_i e;rw [e];exact hi
   · exact I.sub j hj
 · intro j hj hu
   rw [cM]at hu
   split at hu
   · cases hu
   · exact I.late j hj hu
 · intro j hj p hp
   rw [cM]at hj ⊢
   split at hj
   · rename_i e
     subst e
     split
     · rfl
     · exact hb p hp
   · split
     · rfl
     · exact I.closed j hj p hp
 · intro p hp
   rw [ET]
   by_cases ow:p=d
   · subst ow
     have fQ:dn<a.tmps.size:=Nat.lt_of_lt_of_le Ll I.wK
     have:(a.put (some dn) v').tmps.getD p.un undef=v':=by rw [ack];simp [Act.put,fQ]
     rw [this];exact h2
   · have dr:dn≠p.un:=fun e=>ow (Pos.wa (by rw [ack,e]))
     have:(a.put (some dn) v').tmps.getD p.un undef=a.tmps.getD p.un undef:=by
      simp [Act.put,Array.getD_eq_getD_getElem?,Array.getElem?_setIfInBounds_ne dr]
     rw [this]
     refine VR.ext hE (I.Cb p fun j hj hu=> ?_)
     by_cases FA:j=i
     · rw [FA,qf];intro e;cases e;exact ow rfl
     · exact hp j hj (by rw [cM,if_neg FA];exact hu)
 · intro j hj hu aj dj fp kY
   rw [cM]at hu
   split at hu
   · cases hu
   · rename_i dr
     exact(I.prom j hj hu aj dj fp kY).ext fun f hf hn hM=>h5 f hf hn fun hM'=>I.Lk j hj i hi hu lY dr aj ao dj d f fp gC kY hd hM hM'
 · intro i1 FB j1 FC pt mg dr
   rw [cM]at pt mg
   split at pt
   · cases pt
   · split at mg
     · cases mg
     · exact I.Lk i1 FB j1 FC pt mg dr
end
end Go.Ve
namespace Go.Ve
open Go.RowKit
section
variable {P:Program}{w0 w:World}{φ:aO}{nt:Nat}{ops:Array Oper}{as:Array bS}{s:St}{b:Frame}{cs0 cs:List Frame}{a:Act}{N:Nat}{done eE:List Nat}{L:Array Bool}
theorem Cc {ao:bS}{t t':PT}(h:∀p∈ao.reads,t.get p=t'.get p):mZ ao.guard t=mZ ao.guard t':=by
 cases hg:ao.guard with
 | none=>rfl
 | some pw =>
  obtain⟨p,want⟩:=pw
  have:=h p (by unfold bS.reads;rw [hg];simp)
  show PT.ey p t _=PT.ey p t' _
  rw [PT.lz,PT.lz,this]
theorem Lm {ao:bS}{t t':PT}(h:∀p∈ao.reads,t.get p=t'.get p):ao.args.map (jW t)=ao.args.map (jW t'):=by
 refine List.map_congr_left fun x hx=> ?_
 cases x with
 | c v=>rfl
 | t p=>exact h p (by unfold bS.reads;exact List.mem_append_left _ (List.mem_filterMap.2 ⟨.t p,hx,rfl⟩))
theorem qs.state {ao:bS}{d:Pos}{s':St}(h:qs N s φ ao d) (hr:∀p∈ao.reads,s.tm.get p=s'.tm.get p) (hd:s.tm.get d=s'.tm.get d) (hle:mi s.h s'.h) (kG:s.h.nx≤s'.h.nx):qs N s' φ ao d:=by
 have h1:=Cc hr
 have h2:=Lm hr
 cases h with
 | off h hu=>exact .off (h1▸h) (hd▸hu)
 | val p h ha sO hm v hv TI=>exact .val p (h1▸h) ha sO hm v (hd▸hv) (fun hh k2 hl hk=>h2▸TI hh k2 (hle.trans hl) hk)
 | made p h ha hm f ty l m c hf hs ho hc wJ hlen hφ hn hN=>exact .made p (h1▸h) ha hm f ty l m c (h2▸hf) (hd▸hs) (hle _ _ ho) hc wJ hlen hφ (Nat.lt_of_lt_of_le hn kG) hN
theorem uO.state {ao:bS}{d:Pos}{f:Nat}{s':St}(h:uO s' ao d f) (hr:∀p∈ao.reads,s.tm.get p=s'.tm.get p) (hd:s.tm.get d=s'.tm.get d):uO s ao d f:=by
 obtain⟨p,h1,h2,h3,h4⟩:=h
 exact⟨p,h1,h2,by rw [Cc hr];exact h3,by rw [hd];exact h4⟩
theorem Inv.grow (I:Inv P w0 N nt ops as b cs0 done eE L φ s cs a w) (hr:ou P nt ops as) (hs:uM ops as=true){i:Nat}{ao:bS}{d:Pos}(hid:i∉done) (hb:∀p∈gh ops i,p∈done) (gC:as[i]? =some ao) (hd:ao.dst=some d) (nQ:sN ops as i=false)
    {s':St}{v:Value}(eX:s'.tm=s.tm.set d v) (wy:s'.df=s.df) (lT:s'.rc=s.rc) (H:HR P w0 φ s'.h w) (hle:mi s.h s'.h) (kG:s.h.nx≤s'.h.nx) (hP:qs N s' φ ao d) (hM:∀f,uO s' ao d f→s.h.nx≤f) :
    Inv P w0 N nt ops as b cs0 (i::done) (i::eE) L φ s' cs a w:=by
  have qf:jX as i=some d:=by unfold jX;rw [gC];exact hd
  have lY:L.getD i false=false:=by
    cases h:L.getD i false with
    | false=>rfl
    | true=>exact absurd (I.sub i h) hid
  have get:∀p,p≠d→s.tm.get p=s'.tm.get p:=fun p hp=>by rw [eX,PT.eK,if_neg hp]
  have wL:∀j∈done,∀aj:bS,as[j]? =some aj→∀p∈aj.reads,s.tm.get p=s'.tm.get p:=fun j hj aj fp p hp=>get p fun e=>by
    subst e
    by_cases Ln:i∈gh ops j
    · exact hid (I.zt.closed j hj i Ln)
    · have:=TF hr fp hp qf Ln
      rw [nQ]at this;cases this
  have wM:∀j∈done,∀(aj:bS) (dj:Pos),as[j]? =some aj→aj.dst=some dj→s.tm.get dj=s'.tm.get dj:=fun j hj aj dj fp kY=>get dj fun e=>by
    subst e
    have TJ:jX as j=some dj:=by unfold jX;rw [fp];exact kY
    have:=acf hr hs TJ qf
    subst this
    exact hid hj
  refine⟨I.size,fun j hj=>List.mem_cons_of_mem _ (I.sub j hj), ?_, ?_,I.closed,.cons _ _ hid hb I.zt, ?_,⟨wy▸I.sq.df,lT▸I.sq.rc,H⟩,I.wK, ?_, ?_, ?_,Nat.le_trans I.nx kG⟩
  · intro j hj hu
    rcases List.mem_cons.1 hj with rfl | hj
    · exact List.mem_cons_self
    · exact List.mem_cons_of_mem _ (I.late j hj hu)
  · intro j hj
    rcases List.mem_cons.1 hj with rfl | hj
    · exact⟨nQ,List.mem_cons_self⟩
    · exact⟨(I.Ca j hj).1,List.mem_cons_of_mem _ (I.Ca j hj).2⟩
  · intro j hj
    rcases List.mem_cons.1 hj with rfl | hj
    · exact hr.lt gC
    · exact I.lt j hj
  · intro p hp
    have ow:p≠d:=fun e=>hp i List.mem_cons_self lY (by rw [e];exact qf)
    rw [←get p ow]
    exact I.Cb p fun j hj hu=>hp j (List.mem_cons_of_mem _ hj) hu
  · intro j hj hu aj dj fp kY
    rcases List.mem_cons.1 hj with rfl | hj
    · rw [gC]at fp;cases fp
      rw [hd]at kY;cases kY
      exact hP
    · exact(I.prom j hj hu aj dj fp kY).state (wL j hj aj fp) (wM j hj aj dj fp kY) hle kG
  · have old:∀j∈done,L.getD j false=false→∀(aj:bS) (dj:Pos) (f:Nat),as[j]? =some aj→aj.dst=some dj→uO s' aj dj f→f<s.h.nx:=by
      intro j hj hu aj dj f fp kY hm
      obtain⟨p,q1,q2,q3,q4⟩:=hm.state (wL j hj aj fp) (wM j hj aj dj fp kY)
      cases I.prom j hj hu aj dj fp kY with
      | off h hu=>rw [q3]at h;cases h
      | val p' h ha sO hm v hv TI=>rw [ha]at q1;cases q1;rw [hm]at q2;cases q2
      | made p' h ha hm f' ty l m c hf Lj ho hc wJ hlen hφ hn hN=>rw [Lj]at q4;rw [←ach q4];exact hn
    intro i1 FB j1 FC pt mg dr a1 a2 d1 d2 f h1 h2 h3 h4 m1 m2
    rcases List.mem_cons.1 FB with rfl | gJ<;>rcases List.mem_cons.1 FC with rfl | sP
    · exact dr rfl
    · rw [gC]at h1;cases h1
      rw [hd]at h3;cases h3
      have q1:=hM f m1
      have q2:=old j1 sP mg a2 d2 f h2 h4 m2
      omega
    · rw [gC]at h2;cases h2
      rw [hd]at h4;cases h4
      have q1:=hM f m2
      have q2:=old i1 gJ pt a1 d1 f h1 h3 m1
      omega
    · exact I.Lk i1 gJ j1 sP pt mg dr a1 a2 d1 d2 f h1 h2 h3 h4 (m1.state (wL i1 gJ a1 h1) (wM i1 gJ a1 d1 h1 h3)) (m2.state (wL j1 sP a2 h2) (wM j1 sP a2 d2 h2 h4))
end
end Go.Ve
namespace Go.Ve
open Go.RowKit
section
variable {P:Program}{w0 w:World}{φ:aO}{nt:Nat}{ops:Array Oper}{as:Array bS}{s:St}{b:Frame}{cs0 cs:List Frame}{a:Act}{N:Nat}{done eE:List Nat}{L:Array Bool}
theorem HR.spare {h:AH}(H:HR P w0 φ h w){o:AO}{bj:NT AO}(hs:h.ob.ko h.nx (some o) bj):HR P w0 φ ⟨h.nx+1,bj⟩ w:=by
 have dr:∀f,φ f≠none→f≠h.nx:=fun f hf e=>hf (by rw [e];exact H.fresh _ (Nat.le_refl _))
 refine⟨H.inj,fun f hf=>H.fresh f (by have:h.nx+1≤f:=hf;omega),fun f hf=> ?_,fun f hf=> ?_,fun f bl d n hf=> ?_,H.below⟩
 · have:h.nx+1≤f:=hf
   show bj.get f=none
   rw [hs.2 f (by omega)];exact H.top f (by omega)
 · show bj.get f=none
   rw [hs.2 f (dr f (by rw [hf];simp))];exact H.dead f hf
 · obtain⟨o1,o2,q1,q2⟩:=H.obj f bl d n hf
   exact⟨o1,o2,by show bj.get f=some o1;rw [hs.2 f (dr f (by rw [hf];simp))];exact q1,q2⟩
theorem mi.spare {h:AH}(H:HR P w0 φ h w){o:AO}{bj:NT AO}(hs:h.ob.ko h.nx (some o) bj):mi h ⟨h.nx+1,bj⟩:=fun f o1 ho=>by
 have:f≠h.nx:=fun e=>by rw [e,H.top _ (Nat.le_refl _)]at ho;cases ho
 show bj.get f=some o1
 rw [hs.2 f this];exact ho
theorem Inv.acm (I:Inv P w0 N nt ops as b cs0 done eE L φ s cs a w) (hr:ou P nt ops as) (hs:uM ops as=true){i:Nat}{ao:bS}(hid:i∉done) (hb:∀p∈gh ops i,p∈done) (gC:as[i]? =some ao) (nQ:sN ops as i=false)
 {rec:Task→Bool}{e:Env}{fail:KS}{k:St→Bool}(h:wx rec ao e s fail k=true):∃s',k s'=true∧Inv P w0 N nt ops as b cs0 (i::done) (i::eE) L φ s' cs a w∧s.h.nx≤s'.h.nx:=by
 obtain⟨Fy,d,acn,acj,hd⟩:=acg nQ
 rw [gC]at acn;cases acn
 obtain⟨p,hp,hpa⟩:=alK acj
 have qf:jX as i=some d:=by unfold jX;rw [gC];exact hd
 have alQ:d∉ao.reads:=fun hm=>by
  have Ln:i∉gh ops i:=fun h=>hid (hb i h)
  have:=TF hr gC hm qf Ln
  rw [nQ]at this;cases this
 have h1:(bif mZ ao.guard s.tm then p.ev (ao.args.map (jW s.tm)) s.h (fun v h=>jI (some d) s v h k)else jI (some d) s undef s.h k)=true:=by
  have h':qe ao.guard s.tm (qd ao.args s.tm (BX rec ao.act ao.dst e s fail k)) (jI ao.dst s undef s.h k)=true:=by cases ao;exact h
  rw [TB,B9,hd,hp]at h'
  exact h'
 have dq:∀(v:Value) (q:Pos),q∈ao.reads→(s.tm.set d v).get q=s.tm.get q:=fun v q hq=>by rw [PT.eK,if_neg (fun e=>alQ (by rw [←e];exact hq))]
 cases hw:mZ ao.guard s.tm with
 | false =>
  rw [hw]at h1
  have h2:jI (some d) s undef s.h k=true:=h1
  rw [Fw]at h2
  have nP:mZ ao.guard (s.tm.set d undef)=false:=by rw [Cc (dq undef)];exact hw
  refine⟨_,h2,I.grow hr hs hid hb gC hd nQ (v:=undef) rfl rfl rfl I.sq.heap (mi.refl _) (Nat.le_refl _) (.off nP (by simp [PT.eK])) (fun f hm=> ?_),Nat.le_refl _⟩
  obtain⟨_,_,_,q3,_⟩:=hm
  have wm:mZ ao.guard (s.tm.set d undef)=true:=q3
  rw [nP]at wm;cases wm
 | true =>
  rw [hw]at h1
  have h2:p.ev (ao.args.map (jW s.tm)) s.h (fun v h=>jI (some d) s v h k)=true:=h1
  cases hm:p.makes with
  | false =>
   obtain⟨v,h3,h4⟩:=ab6 p hpa hm _ _ _ h2
   rw [Fw]at h3
   have nP:mZ ao.guard (s.tm.set d v)=true:=by rw [Cc (dq v)];exact hw
   refine⟨_,h3,I.grow hr hs hid hb gC hd nQ (v:=v) rfl rfl rfl I.sq.heap (mi.refl _) (Nat.le_refl _) (.val p nP hp hpa hm v (by simp [PT.eK];exact kJ.refl v) (fun hh k2 hl hk=> ?_)) (fun f FD=> ?_),Nat.le_refl _⟩
   · show p.ev (ao.args.map (jW (s.tm.set d v))) hh k2=true
     rw [Lm (dq v)]
     exact h4 hh k2 hl hk
   · obtain⟨p',q1,q2,_,_⟩:=FD
     rw [hp]at q1;cases q1
     rw [hm]at q2;cases q2
  | true =>
   obtain⟨ty,l,c,bj,h3,h4,h5,h6,h7⟩:=alD hm h2
   rw [Fw]at h7
   have nP:mZ ao.guard (s.tm.set d (p.made s.h.nx))=true:=by rw [Cc (dq _)];exact hw
   refine⟨_,h7,I.grow hr hs hid hb gC hd nQ (v:=p.made s.h.nx) rfl rfl rfl (I.sq.heap.spare h6) (mi.spare I.sq.heap h6) (Nat.le_succ _) (.made p nP hp hm s.h.nx ty l l c ?_ (by simp [PT.eK]) h6.1 h5 (po.refl l) rfl (I.sq.heap.fresh _ (Nat.le_refl _)) (Nat.lt_succ_self _) I.nx) (fun f FD=> ?_),Nat.le_succ _⟩
   · show Fx p (ao.args.map (jW (s.tm.set d (p.made s.h.nx)))) ty l
     rw [Lm (dq _)];exact h3
   · obtain⟨p',q1,q2,_,q4⟩:=FD
     have Ks:(s.tm.set d (p.made s.h.nx)).get d=p'.made f:=q4
     rw [PT.eK,if_pos rfl]at Ks
     rw [←ach Ks]
     exact Nat.le_refl _
end
end Go.Ve
namespace Go.Ve
open Go.RowKit
section
variable {P:Program}{w0 w:World}{φ:aO}{nt:Nat}{ops:Array Oper}{as:Array bS}{s:St}{b:Frame}{cs0 cs:List Frame}{a:Act}{N:Nat}{done eE:List Nat}{L:Array Bool}
theorem qs.kR {ao:bS}{d:Pos}{s':St}{φ':aO}(h:qs N s φ ao d) (mS:ao.dst=some d) (hr:∀p∈ao.reads,s.tm.get p=s'.tm.get p) (hd:s.tm.get d=s'.tm.get d) (hE:Ext s.h.nx φ φ') (kG:s.h.nx≤s'.h.nx) (hc:B8 ao s'=true):qs N s' φ' ao d:=by
 have h1:=Cc hr
 have h2:=Lm hr
 have gY:(bif mZ ao.guard s'.tm then(kB.casesOn (motive:=fun _=>Bool) ao.act (Fq ao.dst s' (ao.args.map (jW s'.tm))) ot false false false false)else true)=true:=by
  have h':qe ao.guard s'.tm (qd ao.args s'.tm fun vs=>kB.casesOn (motive:=fun _=>Bool) ao.act (Fq ao.dst s' vs) ot false false false false) true=true:=by cases ao;exact hc
  rw [TB,B9]at h'
  exact h'
 cases h with
 | off h hu=>exact .off (h1▸h) (hd▸hu)
 | val p h ha sO hm v hv TI =>
  rw [h1]at h
  rw [h,ha,mS]at gY
  have wN:PT.ey d s'.tm (fun v=>bif p.makes then p.fresh (ao.args.map (jW s'.tm)) (zo s' v)else p.ev (ao.args.map (jW s'.tm)) s'.h (Fp v))=true:=gY
  rw [PT.lz,hm]at wN
  obtain⟨u,q1,q2⟩:=ab6 p sO hm _ _ _ (show p.ev (ao.args.map (jW s'.tm)) s'.h (Fp (s'.tm.get d))=true from wN)
  exact .val p h ha sO hm u (alB q1) q2
 | made p h ha hm f ty l m c hf hs ho ri wJ hlen hφ hn hN =>
  rw [h1]at h
  rw [h,ha,mS]at gY
  have wN:PT.ey d s'.tm (fun v=>bif p.makes then p.fresh (ao.args.map (jW s'.tm)) (zo s' v)else p.ev (ao.args.map (jW s'.tm)) s'.h (Fp v))=true:=gY
  rw [PT.lz,hm]at wN
  obtain⟨cJ,l',q1,q2⟩:=alC (show p.fresh (ao.args.map (jW s'.tm)) (zo s' (s'.tm.get d))=true from wN)
  rw [←hd,hs]at q1
  have q1':Tr (p.made f) (fun b=>mW s'.h b fun lo hi alR rw c=>iff (rw&&Nat.beq lo 0&&Nat.beq hi l'.length&&Nat.beq cJ alR) (qm c 0 l'.length fun m=>qp m l'))=true:=q1
  rw [alG]at q1'
  obtain⟨lo,hi,ty2,rw2,c2,u1,u2⟩:=uQ q1'
  obtain⟨u3,u4⟩:=cI u2
  obtain⟨m',u5,u6,u7⟩:=Lo _ u4
  simp only [Bool.and_eq_true,Nat.beq_eq]at u3
  obtain⟨⟨⟨e1,e2⟩,e3⟩,e4⟩:=u3
  subst e1;subst e2;subst e3;subst e4
  exact .made p h ha hm f cJ l' m' c2 q2 (hd▸hs) u1 (fun j v hj=>by have:=u7 j v hj;rwa [Nat.zero_add]at this) (fun φ x=>(Lh u5 φ x).symm) u6 (hE.out f hn hφ) (Nat.lt_of_lt_of_le hn kG) hN
end
end Go.Ve
namespace Go.Ve
open Go.RowKit
section
variable {P:Program}{w0 w:World}{φ:aO}{ops:Array Oper}{as:Array bS}{s:St}{e:Env}{b:Frame}{cs0 cs:List Frame}{a:Act}{N:Nat}{done eE:List Nat}{L:Array Bool}
theorem Inv.act (I:Inv P w0 N e.nt ops as b cs0 done eE L φ s cs a w) (hr:ou P e.nt ops as) (hs:uM ops as=true) (he:nN φ e b){rec:Task→Bool}(dE:∀t,rec t=true→ed P w0 t){i:Nat}{ao:bS}(hid:i∉done) (gC:as[i]? =some ao) (rj:∀p∈gh ops i,L.getD p false=true)
 {k:KS}{late:List Nat}(acs:∀j∈eE,L.getD j false=false→j∈late) (hlp:∀j∈late,j∈eE){kR r:List kC}(TM:Fz as late=some kR) (h:wx rec ao e s k (fun s=>qg rec (kR++r) e s k)=true){rest:List Nat}{todo:List Item} :
 (∃φ' s' cY a' w',qg rec r e s' k=true∧Ext N φ φ'∧Inv P w0 N e.nt ops as b cs0 (i::done) late (L.setIfInBounds i true) φ' s' cY a' w'∧Steps P (lone (b.atR a (.inRegion ops (i::rest)::todo)) cs w) (lone (b.atR a' (.inRegion ops rest::todo)) cY w'))∨
 kq P w0 φ N e b cs0 (lone (b.atR a (.inRegion ops (i::rest)::todo)) cs w) todo k:=by
 obtain⟨o,ho,hc⟩:=hr.op gC
 have bJ:=hr.lt gC
 rcases aaN (rest:=rest) (todo:=todo) dE hc ho I.sq he (I.reads hr hs gC rj fun hi=>absurd hi hid) h with⟨v,v',s1,φ',w',cY,kW,h1,h2,h3,h4,h5,h6,h7⟩ | ⟨v,v',s1,φ',w',h1,h3,h4,h5,h6,h7⟩
 · left
   rw [Fw]at h1
   obtain⟨alT,hk⟩:=alM TM h1
   obtain⟨act,xs,args,e1,e2,e3,e4,e5,e6⟩:=BW hc
   have cM:=fun j=>uP L i j (by rw [I.size];exact bJ)
   have hb:∀p∈gh ops i,p∈done:=fun p hp=>I.sub p (rj p hp)
   have lY:L.getD i false=false:=by
    cases hh:L.getD i false with
    | false=>rfl
    | true=>exact absurd (I.sub i hh) hid
   have get:∀p,ao.dst≠some p→s.tm.get p=(match ao.dst with | none=>s1.tm | some q=>s1.tm.set q v).get p:=by
    intro p hp
    cases hd:ao.dst with
    | none=>simp only;rw [h2]
    | some q =>
     simp only
     rw [PT.eK,if_neg (fun e=>hp (by rw [hd,e])),h2]
   have wL:∀j∈done,L.getD j false=false→∀aj:bS,as[j]? =some aj→∀p∈aj.reads,ao.dst≠some p:=fun j hj hu aj fp p hp hd=>by
    have TN:jX as i=some p:=by unfold jX;rw [gC];exact hd
    rcases alJ hr hs fp hp TN with rfl | h | h
    · exact hid hj
    · exact hid (I.zt.closed j hj i h)
    · rw [rj j h]at hu;cases hu
   have wM:∀j∈done,∀(aj:bS) (dj:Pos),as[j]? =some aj→aj.dst=some dj→ao.dst≠some dj:=fun j hj aj dj fp kY hd=>by
    have TN:jX as i=some dj:=by unfold jX;rw [gC];exact hd
    have TJ:jX as j=some dj:=by unfold jX;rw [fp];exact kY
    have:=acf hr hs TJ TN
    subst this
    exact hid hj
   refine⟨φ',_,cY,_,w',hk,h3.mono I.nx, ?_,h7⟩
   refine⟨by simp [I.size], ?_, ?_, ?_, ?_,.cons _ _ hid hb I.zt, ?_,⟨by rw [Act.KD];exact h6.df,h6.rc,h6.heap⟩, ?_, ?_, ?_, ?_,Nat.le_trans I.nx h4⟩
   · intro j hj
     rw [cM]at hj
     split at hj
     · rename_i e;rw [e];exact List.mem_cons_self
     · exact List.mem_cons_of_mem _ (I.sub j hj)
   · intro j hj hu
     rw [cM]at hu
     split at hu
     · cases hu
     · rename_i dr
       rcases List.mem_cons.1 hj with hj | hj
       · exact absurd hj dr
       · exact acs j (I.late j hj hu) hu
   · intro j hj
     have:=I.Ca j (hlp j hj)
     exact⟨this.1,List.mem_cons_of_mem _ this.2⟩
   · intro j hj p hp
     rw [cM]at hj ⊢
     split at hj
     · rename_i e
       subst e
       split
       · rfl
       · exact rj p hp
     · split
       · rfl
       · exact I.closed j hj p hp
   · intro j hj
     rcases List.mem_cons.1 hj with rfl | hj
     · exact bJ
     · exact I.lt j hj
   · rcases e5 with⟨q1,_⟩ | ⟨dn,q1,_,_⟩
     · rw [q1];exact I.wK
     · rw [q1];simpa [Act.put]using I.wK
   · intro p hp
     have hold:ao.dst≠some p→VR φ' (s.tm.get p) (a.tmps.getD p.un undef):=fun ow=>VR.ext h3 (I.Cb p fun j hj hu kY=>by
      by_cases FA:j=i
      · subst FA;exact hid hj
      · exact hp j (List.mem_cons_of_mem _ hj) (by rw [cM,if_neg FA];exact hu) kY)
     by_cases ow:ao.dst=some p
     · rcases e5 with⟨_,q2⟩ | ⟨dn,q1,Ll,q3⟩
       · rw [q2]at ow;cases ow
       · rw [q3]at ow;cases ow
         have fQ:dn<a.tmps.size:=Nat.lt_of_lt_of_le Ll I.wK
         rw [q1,q3,Pos.mM]
         have:(({a with defers:=kW}:Act).put (some dn) v').tmps.getD dn undef=v':=by simp [Act.put,fQ]
         rw [this]
         simp only [PT.eK,if_true]
         exact h5
     · have hg:=get p ow
       have:(({a with defers:=kW}:Act).put o.dst v').tmps.getD p.un undef=a.tmps.getD p.un undef:=by
        rcases e5 with⟨q1,_⟩ | ⟨dn,q1,Ll,q3⟩
        · rw [q1];rfl
        · have dr:dn≠p.un:=fun e=>ow (by rw [q3];congr 1;exact Pos.wa (by rw [Pos.mM,e]))
          rw [q1]
          simp [Act.put,Array.getD_eq_getD_getElem?,Array.getElem?_setIfInBounds_ne dr]
       rw [this]
       have key:=hold ow
       rw [hg]at key
       exact key
   · intro j hj hu aj dj fp kY
     rw [cM]at hu
     split at hu
     · cases hu
     · rename_i dr
       rcases List.mem_cons.1 hj with hj | hj
       · exact absurd hj dr
       · obtain⟨aj',acu,uu⟩:=alT j (acs j (I.late j hj hu) hu)
         rw [fp]at acu;cases acu
         exact(I.prom j hj hu aj dj fp kY).kR kY (fun p hp=>get p (wL j hj hu aj fp p hp)) (get dj (wM j hj aj dj fp kY)) h3 h4 uu
   · intro i1 FB j1 FC pt mg dr a1 a2 d1 d2 f g1 g2 g3 g4 m1 m2
     rw [cM]at pt mg
     split at pt
     · cases pt
     · rename_i n1
       split at mg
       · cases mg
       · rename_i n2
         rcases List.mem_cons.1 FB with gJ | gJ
         · exact n1 gJ
         · rcases List.mem_cons.1 FC with sP | sP
           · exact n2 sP
           · exact I.Lk i1 gJ j1 sP pt mg dr a1 a2 d1 d2 f g1 g2 g3 g4 (m1.state (fun p hp=>get p (wL i1 gJ pt a1 g1 p hp)) (get d1 (wM i1 gJ a1 d1 g1 g3))) (m2.state (fun p hp=>get p (wL j1 sP mg a2 g2 p hp)) (get d2 (wM j1 sP a2 d2 g2 g4)))
 · right
   exact⟨.aT v,s1,φ',cs,a,w',h1,h3.mono I.nx,Nat.le_trans I.nx h4,h6,⟨_,v',h5,h7⟩⟩
end
end Go.Ve
namespace Go.Ve
open Go.RowKit
section
variable {P:Program}{w0 w:World}{φ:aO}{ops:Array Oper}{as:Array bS}{s:St}{e:Env}{b:Frame}{cs0 cs:List Frame}{a:Act}{N:Nat}{done eE:List Nat}{L:Array Bool}
theorem acv {o:Oper}{j p:Nat}(ho:ops[j]? =some o):p∈gh ops j↔∃x∈o.after,Region.binds .any x=true∧x.on=p:=by
 unfold gh acp
 rw [ho]
 simp only [List.mem_map,List.mem_filter,Array.mem_toList_iff]
 constructor
 · rintro⟨x,⟨h1,h2⟩,h3⟩;exact⟨x,h1,h2,h3⟩
 · rintro⟨x,h1,h2,h3⟩;exact⟨x,⟨h1,h2⟩,h3⟩
theorem FE (hL:L.size=ops.size){j:Nat}:j∈Region.ready .any ops L↔j<ops.size∧L.getD j false=false∧∀p∈gh ops j,L.getD p false=true:=by
 rw [mem_ready]
 constructor
 · rintro⟨h1,o,ho,h2⟩
   have bJ:j<ops.size:=(Array.getElem?_eq_some_iff.1 ho).1
   refine⟨bJ, ?_,fun p hp=> ?_⟩
   · have:j<L.size:=by omega
     simpa [Array.getD,this]using h1
   · obtain⟨x,q1,q2,rfl⟩:=(acv ho).1 hp
     exact h2 x q1 q2
 · rintro⟨bJ,h1,h2⟩
   refine⟨?_,ops[j],by simp [bJ],fun x hx hbx=>h2 x.on ((acv (by simp [bJ])).2 ⟨x,hx,hbx,rfl⟩)⟩
   have:j<L.size:=by omega
   simpa [Array.getD,this]using h1
theorem alU {md:Region.Mode}{fuel t:Nat}(h:Region.ready md ops L=[]):Region.linearise.go md ops fuel t L []=[]:=by
 cases fuel with
 | zero=>simp [Region.linearise.go]
 | succ fuel =>
  simp only [Region.linearise.go]
  change (match (Region.ready md ops L)[t % (Region.ready md ops L).length]? with
   | some i=>Region.linearise.go md ops fuel (t / (Region.ready md ops L).length) (L.setIfInBounds i true) [i]
   | none=>[].reverse)=[]
  rw [h];rfl
theorem acw {md:Region.Mode}{fuel t:Nat}(h:Region.ready md ops L≠[]):∃i t',i∈Region.ready md ops L∧Region.linearise.go md ops (fuel+1) t L []=i::Region.linearise.go md ops fuel t' (L.setIfInBounds i true) []:=by
 have hlen:0<(Region.ready md ops L).length:=List.length_pos_iff.2 h
 have bJ:t % (Region.ready md ops L).length<(Region.ready md ops L).length:=Nat.mod_lt _ hlen
 have hi:(Region.ready md ops L)[t % (Region.ready md ops L).length]? =some (Region.ready md ops L)[t % (Region.ready md ops L).length]:=List.getElem?_eq_getElem bJ
 refine⟨(Region.ready md ops L)[t % (Region.ready md ops L).length],t / (Region.ready md ops L).length,List.getElem_mem bJ, ?_⟩
 conv=>lhs;simp only [Region.linearise.go]
 change (match (Region.ready md ops L)[t % (Region.ready md ops L).length]? with
  | some i=>Region.linearise.go md ops fuel (t / (Region.ready md ops L).length) (L.setIfInBounds i true) [i]
  | none=>[].reverse)=_
 rw [hi]
 simp only []
 rw [linearise_go_acc,List.reverse_singleton,List.singleton_append]
def Ce (ops:Array Oper) (L:Array Bool):Nat:=(List.range ops.size).countP fun j=> !L.getD j false
theorem countP_set {p q:Nat→Bool}{r:Nat}(h:∀j,q j=true→p j=true∧j≠r) (hpr:p r=true):∀{l:List Nat},r∈l→l.countP q+1≤l.countP p:=by
  have mono:∀l:List Nat,l.countP q≤l.countP p:=fun l=>List.countP_mono_left fun x _ hx=>(h x hx).1
  intro l
  induction l with
  | nil=>intro hm;cases hm
  | cons x l ih =>
    intro hm
    by_cases hx:x=r
    · subst hx
      have hq:q x=false:=by
        cases hh:q x with
        | false=>rfl
        | true=>exact absurd rfl (h x hh).2
      have:=mono l
      simp [List.countP_cons,hq,hpr]
      exact this
    · have qb:r∈l:=by
        rcases List.mem_cons.1 hm with hm | hm
        · exact absurd hm.symm hx
        · exact hm
      have:=ih qb
      rw [List.countP_cons,List.countP_cons]
      cases hq:q x with
      | false=>simp;omega
      | true=>rw [(h x hq).1];simp;omega
theorem acx (hL:L.size=ops.size){i:Nat}(hi:i<ops.size) (hu:L.getD i false=false):Ce ops (L.setIfInBounds i true)+1≤Ce ops L:=by
 refine countP_set (r:=i) (fun j hj=> ?_) (by rw [hu];rfl) (List.mem_range.2 hi)
 rw [uP L i j (by omega)]at hj
 split at hj
 · cases hj
 · rename_i dr;exact⟨hj,dr⟩
theorem TO {i:Nat}(hi:i<ops.size) (hu:L.getD i false=false):0<Ce ops L:=List.countP_pos_iff.2 ⟨i,List.mem_range.2 hi,by rw [hu];rfl⟩
theorem alV (hr:ou P e.nt ops as) (hs:uM ops as=true){rec:Task→Bool}(dE:∀t,rec t=true→ed P w0 t){k:KS}{todo:List Item}:∀(n:Nat) (order:List Nat) (fuel t:Nat){done eE:List Nat}{L:Array Bool}{φ:aO}{s:St}{cs:List Frame}{a:Act}{w:World}{dl:List kC},
    order.length+fuel≤n→Inv P w0 N e.nt ops as b cs0 done eE L φ s cs a w→nN φ e b→wO ops as done eE order=some dl→qg rec dl e s k=true→Ce ops L≤fuel→
    kq P w0 φ N e b cs0 (lone (b.atR a (.inRegion ops (Region.linearise.go .any ops fuel t L [])::todo)) cs w) todo k:=by
  intro n
  induction n with
  | zero =>
    intro order fuel t done eE L φ s cs a w dl hn I he js hk hu
    have h0:order=[]:=by cases order with | nil=>rfl | cons _ _=>simp at hn
    have hf:fuel=0:=by omega
    subst h0;subst hf
    unfold wO at js
    split at js
    · rename_i gz
      cases js
      have uR:∀j,j<ops.size→L.getD j false=true:=fun j hj=>by
        cases h:L.getD j false with
        | true=>rfl
        | false=>have:=TO hj h;omega
      refine⟨.normal,s,φ,cs,a,w,hk,Ext.refl _ _,I.nx,⟨I.sq,I.wK,fun p=>I.Cb p fun j hj bZ=> ?_⟩, ?_⟩
      · rw [uR j (I.lt j hj)]at bZ;cases bZ
      · simp only [Region.linearise.go,List.reverse_nil];exact .one stepR_region_end
    · cases js
  | succ n ih =>
    intro order fuel t done eE L φ s cs a w dl hn I he js hk hu
    have run:∀(i:Nat) (fuel t':Nat),order.length+fuel≤n→i∈done→L.getD i false=false→(∀p∈gh ops i,L.getD p false=true)→Ce ops L≤fuel+1→
        kq P w0 φ N e b cs0 (lone (b.atR a (.inRegion ops (i::Region.linearise.go .any ops fuel t' (L.setIfInBounds i true) [])::todo)) cs w) todo k:=by
      intro i fuel t' TP hid lY rj bZ
      obtain⟨φ',a',w',h1,h2,h3⟩:=I.exec hr hs hid lY rj (rest:=Region.linearise.go .any ops fuel t' (L.setIfInBounds i true) []) (todo:=todo)
      have:=acx I.size (I.lt i hid) lY
      exact(ih order fuel t' TP h3 (he.ext h2) js hk (by omega)).of_steps h2 (Nat.le_refl _) h1
    cases order with
    | nil =>
      by_cases hex:∃x∈done,(fun j=> !L.getD j false) x=true
      · obtain⟨r,q1,q2,q3⟩:=I.zt.first hex
        have lY:L.getD r false=false:=by simpa using q2
        have qk:r∈Region.ready .any ops L:=(FE I.size).2 ⟨I.lt r q1,lY,fun p hp=>by simpa using q3 p hp⟩
        have pq:=TO (I.lt r q1) lY
        obtain⟨f',rfl⟩:∃f',fuel=f'+1:=⟨fuel-1,by omega⟩
        obtain⟨i,t',hi,yY⟩:=acw (fuel:=f') (t:=t) (List.ne_nil_of_mem qk)
        rw [yY]
        obtain⟨i1,i2,i3⟩:=(FE I.size).1 hi
        have gz:=js
        unfold wO at gz
        split at gz
        · rename_i hc
          have hid:i∈done:=by simpa using List.all_eq_true.1 hc i (List.mem_range.2 i1)
          exact run i f' t' (by first | (simp at hn ⊢;omega) | (simp at hn;omega)) hid i2 i3 (by omega)
        · cases gz
      · have gz:=js
        unfold wO at gz
        split at gz
        · rename_i hc
          cases gz
          have uR:∀j∈done,L.getD j false=true:=fun j hj=>by
            cases h:L.getD j false with
            | true=>rfl
            | false=>exact absurd ⟨j,hj,by simp [h]⟩ hex
          have qk:Region.ready .any ops L=[]:=by
            cases hq:Region.ready .any ops L with
            | nil=>rfl
            | cons x l =>
              have hx:x∈Region.ready .any ops L:=by rw [hq];exact List.mem_cons_self
              obtain⟨i1,i2,_⟩:=(FE I.size).1 hx
              have:=uR x (by simpa using List.all_eq_true.1 hc x (List.mem_range.2 i1))
              rw [i2]at this;cases this
          rw [alU qk]
          refine⟨.normal,s,φ,cs,a,w,hk,Ext.refl _ _,I.nx,⟨I.sq,I.wK,fun p=>I.Cb p fun j hj bZ=> ?_⟩,.one stepR_region_end⟩
          rw [uR j hj]at bZ;cases bZ
        · cases gz
    | cons i order =>
      have awh:=js
      unfold wO at js
      split at js
      · cases js
      · rename_i ao gC
        split at js
        · rename_i acz
          simp only [Bool.and_eq_true,Bool.not_eq_true',List.contains_eq_mem,decide_eq_false_iff_not]at acz
          obtain⟨hid,hb⟩:=acz
          have cG:∀p∈gh ops i,p∈done:=fun p hp=>by simpa using List.all_eq_true.1 hb p hp
          split at js
          · rename_i nQ
            split at js
            · rename_i alW
              split at js
              · rename_i kR r TM uS
                cases js
                have lY:L.getD i false=false:=by
                  cases hh:L.getD i false with
                  | false=>rfl
                  | true=>exact absurd (I.sub i hh) hid
                have hT:uN ops (i::done):=.cons _ _ hid cG I.zt
                obtain⟨r0,q1,q2,q3⟩:=hT.first (u:=fun j=> !L.getD j false) ⟨i,List.mem_cons_self,by simp only [lY];rfl⟩
                have acA:L.getD r0 false=false:=by simpa using q2
                have acB:r0<ops.size:=by
                  rcases List.mem_cons.1 q1 with rfl | q1
                  · exact hr.lt gC
                  · exact I.lt r0 q1
                have qk:r0∈Region.ready .any ops L:=(FE I.size).2 ⟨acB,acA,fun p hp=>by simpa using q3 p hp⟩
                have pq:=TO acB acA
                obtain⟨f',rfl⟩:∃f',fuel=f'+1:=⟨fuel-1,by omega⟩
                obtain⟨i',t',hi,yY⟩:=acw (fuel:=f') (t:=t) (List.ne_nil_of_mem qk)
                rw [yY]
                obtain⟨i1,i2,i3⟩:=(FE I.size).1 hi
                by_cases Lr:i'∈done
                · exact run i' f' t' (by first | (simp at hn ⊢;omega) | (simp at hn;omega)) Lr i2 i3 (by omega)
                · have KK:i'=i:=by
                    have:=List.all_eq_true.1 alW i' (List.mem_range.2 i1)
                    simp only [Bool.or_eq_true,List.contains_eq_mem,decide_eq_true_eq,beq_iff_eq,Bool.not_eq_true']at this
                    rcases this with(h | h) | h
                    · exact absurd h Lr
                    · exact h
                    · have:(gh ops i').all done.contains=true:=List.all_eq_true.2 fun p hp=>by simpa using I.sub p (i3 p hp)
                      rw [this]at h;cases h
                  subst KK
                  have alX:∀j∈wI ops (gh ops i') done,L.getD j false=true:=alL (good:=fun j=>L.getD j false=true) I.closed done _ i3
                  rcases I.act hr hs he dE hid gC i3 (late:=eE.filter fun j=> !(wI ops (gh ops i') done).contains j) (fun j hj bZ=>by
                    refine List.mem_filter.2 ⟨hj, ?_⟩
                    simp only [Bool.not_eq_true',List.contains_eq_mem,decide_eq_false_iff_not]
                    intro hc
                    rw [alX j hc]at bZ;cases bZ) (fun j hj=>(List.mem_filter.1 hj).1) TM hk (rest:=Region.linearise.go .any ops f' t' (L.setIfInBounds i' true) []) (todo:=todo)with⟨φ',s',cY,a',w',z1,z2,z3,z4⟩ | z
                  · have:=acx I.size i1 i2
                    exact(ih order f' t' (by first | (simp at hn ⊢;omega) | (simp at hn;omega)) z3 (he.ext z2) uS z1 (by omega)).of_steps z2 (Nat.le_refl _) z4
                  · exact z
              · cases js
            · cases js
          · rename_i nQ
            simp only [Option.map_eq_some_iff]at js
            obtain⟨dl',alY,rfl⟩:=js
            obtain⟨s',z1,z2,z3⟩:=I.acm hr hs hid cG gC (by simpa using nQ) (show wx rec ao e s k (fun s=>qg rec dl' e s k)=true from hk)
            exact ih order fuel t (by first | (simp at hn ⊢;omega) | (simp at hn;omega)) z2 he alY z1 hu
        · cases js
theorem acb (bT:P.follows .mixedOrders=true) (w0:World):aaP P w0:=by
 intro rec dE e b cs0 todo k id ops l dl hl wz φ s cs a w hs he hk
 unfold Sb at wz
 split at wz
 · rename_i pv
   have hr:=alI hl
   have qh:=stepR_region_draw (P:=P) (b:=b) (a:=a) (k:=todo) (cs:=cs) (w:=w) (id:=id) (ops:=ops)
   have alZ:∀t,Region.schedule (P.follows .mixedOrders) ops t=Region.linearise.go .any ops ops.size t (Array.replicate ops.size false) []:=fun t=>by
    simp [Region.schedule,bT,Region.linearise]
   rw [alZ]at qh
   have acC:∀j,(Array.replicate ops.size false).getD j false=false:=fun j=>by
    rw [Array.getD_eq_getD_getElem?,Array.getElem?_replicate];split<;>rfl
   have I:Inv P w0 s.h.nx e.nt ops l.toArray b cs0 [] [] (Array.replicate ops.size false) φ s cs a {w with drawn:=w.drawn+1} :=
    ⟨by simp,fun j hj=>(by rw [acC]at hj;cases hj),fun j hj=>(by cases hj),fun j hj=>(by cases hj),fun j hj=>(by rw [acC]at hj;cases hj),.nil,fun j hj=>(by cases hj),
     ⟨hs.df,hs.rc,hs.heap.world rfl rfl rfl rfl⟩,hs.tm.1,fun p _=>hs.tm.2 p,fun j hj=>(by cases hj),fun j hj=>(by cases hj),Nat.le_refl _⟩
   refine(alV hr pv dE _ _ ops.size _ (Nat.le_refl _) I he wz hk ?_).of_steps (Ext.refl _ _) (Nat.le_refl _) (.one qh)
   have:=List.countP_le_length (p:=fun j=> !(Array.replicate ops.size false).getD j false) (l:=List.range ops.size)
   simpa [Ce]using this
 · cases wz
end
end Go.Ve
namespace Go.Ve
open Go.RowKit
theorem aca {P:Program}{w0:World}(bT:P.follows .mixedOrders=true){prog:NT jD}(q9:∀f af,prog.get f=some af→ct P f=some af){sums:uE}(TD:KP P w0 sums):∀(n:Nat) (t:Task),ev prog sums n t=true→ed P w0 t:=by
 intro n
 have Sn:=acb bT w0
 induction n with
 | zero=>intro t h;cases h
 | succ n ih =>
  intro t h
  rw [alr]at h
  cases t with
  | code ac e s k=>exact fun c hc=>aaU Sn ih c ac e s k hc h
  | call f args h0 k=>exact aa2 q9 ih TD h
  | BU f args rc h0 k=>exact ale q9 ih h
  | round l args h0 k=>exact aa4 ih h
  | leave ds m h0 k=>exact Ss ih h
theorem HR.bare (P:Program) (w:World):HR P w (fun _=>none) ⟨0,.e⟩ w :=
 ⟨fun f f' b d d' n n' _ h=>(by cases h),fun _ _=>rfl,fun _ _=>rfl,fun f h=>(by cases h),fun f b d n h=>(by cases h),⟨rfl,rfl,rfl,Nat.le_refl _,fun _ _=>rfl⟩⟩
def NT.Holds {α:Type}(Q:Nat→α→Prop):Nat→Nat→NT α→Prop
 | _,_,.e=>True
 | o,s,.n l v r=>(∀a,v=some a→Q o a)∧NT.Holds Q (o+s) (s+s) l∧NT.Holds Q (o+s+s) (s+s) r
theorem NT.TE {α:Type}{Q:Nat→α→Prop}:∀{t:NT α}{o s:Nat},t.Holds Q o s→∀i a,t.get i=some a→Q (o+s*i) a
 | .e,_,_,_,i,a,h=>by cases h
 | .n l v r,o,s,⟨h0,hl,hr⟩,i,a,h=>by
  rcases NT.wc i with rfl | ⟨j,rfl⟩ | ⟨j,rfl⟩
  · exact h0 a h
  · rw [NT.pS]at h
    have:=NT.TE hl j a h
    rwa [show o+s+(s+s)*j=o+s*(2*j+1) by rw [Nat.mul_add,Nat.add_mul,Nat.mul_comm 2 j,←Nat.mul_assoc,Nat.mul_two];omega]at this
  · rw [NT.pT]at h
    have:=NT.TE hr j a h
    rwa [show o+s+s+(s+s)*j=o+s*(2*j+2) by rw [Nat.mul_add,Nat.add_mul,Nat.mul_comm 2 j,←Nat.mul_assoc,Nat.mul_two];omega]at this
theorem NT.holds {α:Type}{Q:Nat→α→Prop}{t:NT α}(h:t.Holds Q 0 1) (i:Nat) (a:α) (hi:t.get i=some a):Q i a:=by
 have:=NT.TE h i a hi
 rwa [Nat.zero_add,Nat.one_mul]at this
theorem NT.no {α:Type}{Q:α→Prop}:∀a,(none:Option α)=some a→Q a:=fun a e=>by cases e
end Go.Ve
namespace Go.Ve
open Go.RowKit
open Classical
noncomputable section
abbrev Sl:=Pos→Value
def Sl.up (σ:Sl) (p:Pos) (v:Value):Sl:=fun q=>bif p.beq q then v else σ q
def Sl.gi (σ:Sl) (d:Option Pos) (v:Value):Sl:=match d with
 | none=>σ
 | some p=>σ.up p v
structure DS where
 df:List gV
 rc:Rc
def fe (σ:Sl):eL→Value
 | .t p=>σ p
 | .c v=>v
abbrev PQ:=AX→Sl→DS→AH→Prop
theorem Sl.ac5 (t:PT) (p:Pos) (v:Value):(t.set p v).get=Sl.up t.get p v:=by
 funext q
 rw [PT.eK]
 unfold Sl.up
 by_cases e:q=p
 · subst e;rw [if_pos rfl,Pos.beq_iff.2 rfl];rfl
 · rw [if_neg e]
   have:p.beq q=false:=by
    cases h:p.beq q with
    | false=>rfl
    | true=>exact absurd (Pos.beq_iff.1 h).symm e
   rw [this];rfl
def PT.zz (t:PT) (d:Option Pos) (v:Value):PT:=match d with
 | none=>t
 | some p=>t.set p v
theorem Sl.ac6 (t:PT) (d:Option Pos) (v:Value):(t.zz d v).get=Sl.gi t.get d v:=by
 cases d with
 | none=>rfl
 | some p=>exact Sl.ac5 t p v
theorem zA (d:Option Pos) (s:St) (v:Value) (h:AH) (k:St→Bool):jI d s v h k=k ⟨s.tm.zz d v,s.df,s.rc,h⟩:=by rw [Fw];cases d<;>rfl
theorem T4 (t:PT) (o:eL):jW t o=fe t.get o:=by cases o<;>rfl
section
variable (P:Program) (w0:World)
def gM:Task→Bool:=fun t=>decide (ed P w0 t)
theorem FN (t:Task) (h:gM P w0 t=true):ed P w0 t:=of_decide_eq_true h
theorem na {t:Task}(h:ed P w0 t):gM P w0 t=true:=decide_eq_true h
def WP (p:Prim) (vs:List Value) (h:AH) (R:Value→AH→Prop):Prop:=∀k:KV,(∀v h,R v h→k v h=true)→p.ev vs h k=true
def WF (f:FuncId) (args:List Value) (h:AH) (R:CR→AH→Prop):Prop:=ed P w0 (.call f args h fun r h=>decide (R r h))
def WR (l:Nat) (args:List Value) (h:AH) (R:CR→AH→Prop):Prop:=ed P w0 (.round l args h fun r h=>decide (R r h))
def WL (ds:List gV) (m:Option Value) (h:AH) (K:Option Value→AH→Prop):Prop:=match ds with
 | []=>K m h
 | ds=>ed P w0 (.leave ds m h fun m h=>decide (K m h))
def WC (c:dV) (e:Env) (σ:Sl) (d:DS) (h:AH) (Q:PQ):Prop :=
 ∀tm:PT,tm.get=σ→ed P w0 (.code c e ⟨tm,d.df,d.rc,h⟩ fun x s=>decide (Q x s.tm.get ⟨s.df,s.rc⟩ s.h))
def kK (act:kB) (dst:Option Pos) (e:Env) (σ:Sl) (d:DS) (h:AH) (vs:List Value) (Q:PQ) (K:Sl→DS→AH→Prop):Prop :=
 match act with
 | .aU p=>WP p vs h fun v h=>K (σ.gi dst v) d h
 | .call f=>WF P w0 f vs h fun r h=>match r with
  | .ret v=>K (σ.gi dst v) d h
  | .aT v=>Q (.aT v) σ d h
 | .dyn=>(match vs with
  | .func (.func g) ⟨first⟩ ⟨cr⟩::as=>WF P w0 g (first++(as++cr)) h fun r h=>match r with
   | .ret v=>K (σ.gi dst v) d h
   | .aT v=>Q (.aT v) σ d h
  | .func (.yield l) ⟨[]⟩ ⟨[]⟩::as=>WR P w0 l as h fun r h=>match r with
   | .ret v=>K (σ.gi dst v) d h
   | .aT v=>Q (.aT v) σ d h
  | _=>False)
 | .recover=>(match e.wo,vs with
  | none,[]=>(match d.rc with
   | .can v=>K (σ.gi dst v) ⟨d.df,.mQ⟩ h
   | _=>K (σ.gi dst .nilIface) d h)
  | _,_=>False)
 | .panic=>(match vs with
  | [.iface t x]=>Q (.aT (.iface t x)) σ d h
  | _=>False)
 | .defer=>(match e.wo,vs with
  | none,.func (.func g) ⟨first⟩ ⟨cr⟩::as=>K (σ.gi dst undef) ⟨.fn g (first++(as++cr))::d.df,d.rc⟩ h
  | _,_=>False)
def wpOp (o:bS) (e:Env) (σ:Sl) (d:DS) (h:AH) (Q:PQ) (K:Sl→DS→AH→Prop):Prop :=
 match o.guard with
 | none=>kK P w0 o.act o.dst e σ d h (o.args.map (fe σ)) Q K
 | some (p,want)=>match σ p with
  | .bool b=>bif oo b want then kK P w0 o.act o.dst e σ d h (o.args.map (fe σ)) Q K else K (σ.gi o.dst undef) d h
  | _=>K (σ.gi o.dst undef) d h
def wpOps:List bS→Env→Sl→DS→AH→PQ→Prop
 | [],_,σ,d,h,Q=>Q .normal σ d h
 | o::l,e,σ,d,h,Q=>wpOp P w0 o e σ d h Q fun σ d h=>wpOps l e σ d h Q
def wP (act:kB) (dst:Option Pos) (vs:List Value) (σ:Sl) (h:AH):Prop:=match act,dst with
 | .aU p,some q=>(bif p.makes then p.fresh vs (zo ⟨.e,[],.off,h⟩ (σ q))=true else WP p vs h fun v' _=>rf v' (σ q)=true)
 | _,_=>False
def zB (o:bS) (σ:Sl) (h:AH):Prop:=match o.guard with
 | none=>wP o.act o.dst (o.args.map (fe σ)) σ h
 | some (p,want)=>match σ p with
  | .bool b=>bif oo b want then wP o.act o.dst (o.args.map (fe σ)) σ h else True
  | _=>True
def lG:List kC→Env→Sl→DS→AH→PQ→Prop
 | [],_,σ,d,h,Q=>Q .normal σ d h
 | .op _ o::l,e,σ,d,h,Q=>wpOp P w0 o e σ d h Q fun σ d h=>lG l e σ d h Q
 | .kR _ o::l,e,σ,d,h,Q=>zB o σ h∧lG l e σ d h Q
def wQ (c:Sl→DS→AH→Prop) (Q:PQ):PQ:=fun x σ d h=>match x with
 | .normal=>c σ d h
 | x=>Q x σ d h
def T5 (id:Nat) (Q:PQ):PQ:=fun x σ d h=>match x with
 | .exit j=>bif Nat.beq j id then Q .normal σ d h else Q (.exit j) σ d h
 | x=>Q x σ d h
def eO:dV→Env→Sl→DS→AH→PQ→Prop
 | .skip,_,σ,d,h,Q=>Q .normal σ d h
 | .ops l,e,σ,d,h,Q=>wpOps P w0 l e σ d h Q
 | .draw l,e,σ,d,h,Q=>lG P w0 l e σ d h Q
 | .seq a b,e,σ,d,h,Q=>eO a e σ d h (wQ (fun σ d h=>eO b e σ d h Q) Q)
 | .cond c a b,e,σ,d,h,Q=>(match fe σ c with
  | .bool true=>eO a e σ d h Q
  | .bool false=>eO b e σ d h Q
  | _=>False)
 | .block id c,e,σ,d,h,Q=>eO c e σ d h (T5 id Q)
 | .loop c,e,σ,d,h,Q=>WC P w0 (.loop c) e σ d h Q
 | .pU f ps a b,e,σ,d,h,Q=>WC P w0 (.pU f ps a b) e σ d h Q
 | .exit id,_,σ,d,h,Q=>Q (.exit id) σ d h
 | .ret,_,σ,d,h,Q=>Q .ret σ d h
end
section
variable {P:Program}{w0:World}
theorem jk.mono {f:FuncId}{args:List Value}{h:AH}{k k':CR→AH→Bool}(hk:∀r h,k r h=true→k' r h=true) (H:jk P w0 f args h k):jk P w0 f args h k' :=
 ⟨H.1,fun φ args' w hl hh=>(H.2 φ args' w hl hh).mono fun _ _ ⟨r,h',φ',h1,h2⟩=>⟨r,h',φ',hk _ _ h1,h2⟩⟩
theorem uy.mono {l:Nat}{args:List Value}{h:AH}{k k':CR→AH→Bool}(hk:∀r h,k r h=true→k' r h=true) (H:uy P w0 l args h k):uy P w0 l args h k':=by
 intro φ args' l' w h1 h2 h3 h4
 obtain⟨f,tmps,as,bd,h5,h6⟩:=H φ args' l' w h1 h2 h3 h4
 refine⟨f,tmps,as,bd,h5,fun c cs=> ?_⟩
 obtain⟨v,v',h',φ',w',g1,g2⟩:=h6 c cs
 exact⟨v,v',h',φ',w',hk _ _ g1,g2⟩
theorem EE.mono {c:Code}{e:Env}{s:St}{k k':KS}(hk:∀x s,k x s=true→k' x s=true) (H:EE P w0 c e s k):EE P w0 c e s k':=by
 intro φ b cs0 cs a w h1 h2 it h3 todo
 obtain⟨x,s',φ',cY,a',w',g1,g2⟩:=H φ b cs0 cs a w h1 h2 it h3 todo
 exact⟨x,s',φ',cY,a',w',hk _ _ g1,g2⟩
theorem om.mono {ds:List gV}{m:Option Value}{h:AH}{k k':Option Value→AH→Bool}(hk:∀r h,k r h=true→k' r h=true) (H:om P w0 ds m h k):om P w0 ds m h k':=by
 intro φ fr cs w h1 h2 h3
 obtain⟨m',h',φ',w',u,g1,g2⟩:=H φ fr cs w h1 h2 h3
 exact⟨m',h',φ',w',u,hk _ _ g1,g2⟩
theorem ed.zC {c:dV}{e:Env}{s:St}{k k':KS}(hk:∀x s,k x s=true→k' x s=true) (H:ed P w0 (.code c e s k)):ed P w0 (.code c e s k'):=fun c hc=>EE.mono hk (H c hc)
theorem WP.mono {p:Prim}{vs:List Value}{h:AH}{R R':Value→AH→Prop}(hk:∀v h,R v h→R' v h) (H:WP p vs h R):WP p vs h R':=fun k eW=>H k fun v h hr=>eW v h (hk v h hr)
theorem dF {p:Prim}{vs:List Value}{h h':AH}{v:Value}{R:Value→AH→Prop}(e:∀k:KV,p.ev vs h k=k v h'):WP p vs h R↔R v h' :=
 ⟨fun H=>of_decide_eq_true ((e fun v h=>decide (R v h)).symm.trans (H (fun v h=>decide (R v h)) fun _ _ hr=>decide_eq_true hr)),fun H k hk=>by rw [e];exact hk _ _ H⟩
theorem WF.mono {f:FuncId}{args:List Value}{h:AH}{R R':CR→AH→Prop}(hk:∀r h,R r h→R' r h) (H:WF P w0 f args h R):WF P w0 f args h R' :=
 jk.mono (fun r h hr=>decide_eq_true (hk r h (of_decide_eq_true hr))) H
theorem WR.mono {l:Nat}{args:List Value}{h:AH}{R R':CR→AH→Prop}(hk:∀r h,R r h→R' r h) (H:WR P w0 l args h R):WR P w0 l args h R' :=
 uy.mono (fun r h hr=>decide_eq_true (hk r h (of_decide_eq_true hr))) H
theorem WC.mono {c:dV}{e:Env}{σ:Sl}{d:DS}{h:AH}{Q Q':PQ}(hk:∀x σ d h,Q x σ d h→Q' x σ d h) (H:WC P w0 c e σ d h Q):WC P w0 c e σ d h Q' :=
 fun tm eX=>ed.zC (fun x s hx=>decide_eq_true (hk x _ _ _ (of_decide_eq_true hx))) (H tm eX)
variable (bT:P.follows .mixedOrders=true)
include bT
theorem sT {ac:dV}{e:Env}{s:St}{k:KS}(h:Sp (gM P w0) ac e s k=true):ed P w0 (.code ac e s k) :=
 fun c hc=>aaU (acb bT w0) (FN P w0) c ac e s k hc h
omit bT
theorem amj {dst:Option Pos}{s:St}{fail:KS}{k:St→Bool}{r:CR}{h:AH}(H:match r with | .ret v=>k ⟨s.tm.zz dst v,s.df,s.rc,h⟩=true | .aT v=>fail (.aT v) ⟨s.tm,s.df,s.rc,h⟩=true):qa dst s fail k r h=true:=by
 cases r with
 | ret v=>show jI dst s v h k=true;rw [zA];exact H
 | aT v=>cases s;exact H
theorem wR (l m:List Value) (k:List Value→Bool):jF l m k=k (l++m):=by
 induction l generalizing k with
 | nil=>rfl
 | cons x l ih=>show jF l m (fun l'=>k (x::l'))=_;rw [ih];rfl
theorem ac7 {act:kB}{dst:Option Pos}{e:Env}{tm:PT}{d:DS}{h:AH}{vs:List Value}{Q:PQ}{K:Sl→DS→AH→Prop}{k:St→Bool}
 (hk:∀tm d h,K tm.get d h→k ⟨tm,d.df,d.rc,h⟩=true) (H:kK P w0 act dst e tm.get d h vs Q K) :
 BX (gM P w0) act dst e ⟨tm,d.df,d.rc,h⟩ (fun x s=>decide (Q x s.tm.get ⟨s.df,s.rc⟩ s.h)) k vs=true:=by
 have key:∀(t:PT) (d:DS) (h:AH) (v:Value),K (Sl.gi t.get dst v) d h→k ⟨t.zz dst v,d.df,d.rc,h⟩=true:=fun t d h v hK =>
  hk (t.zz dst v) d h (by rw [Sl.ac6];exact hK)
 have ret:∀r h',(match r with | .ret v=>K (Sl.gi tm.get dst v) d h' | .aT v=>Q (.aT v) tm.get d h':Prop)→qa dst ⟨tm,d.df,d.rc,h⟩ (fun x s=>decide (Q x s.tm.get ⟨s.df,s.rc⟩ s.h)) k r h'=true:=fun r h' hr=>by
  refine amj ?_
  cases r with
  | ret v=>exact key tm d h' v hr
  | aT v=>exact decide_eq_true hr
 cases act with
 | aU p =>
  show p.ev vs h (fun v h'=>jI dst ⟨tm,d.df,d.rc,h⟩ v h' k)=true
  exact H _ fun v h' hK=>by rw [zA];exact key tm d h' v hK
 | call f =>
  show gM P w0 (.call f vs h (qa dst ⟨tm,d.df,d.rc,h⟩ _ k))=true
  exact na P w0 (jk.mono (fun r h' hr=>ret r h' (of_decide_eq_true hr)) H)
 | dyn =>
  show R6 (gM P w0) dst e ⟨tm,d.df,d.rc,h⟩ _ k vs=true
  cases vs with
  | nil=>exact H.elim
  | cons f as =>
   simp only [kK]at H
   split at H
   · rename_i g first cr sB heq
     cases heq
     show jF _ _ _=true
     rw [wR,wR]
     exact na P w0 (jk.mono (fun r h' hr=>ret r h' (of_decide_eq_true hr)) H)
   · rename_i l sB heq
     cases heq
     exact na P w0 (uy.mono (fun r h' hr=>ret r h' (of_decide_eq_true hr)) H)
   · exact H.elim
 | recover =>
  show EM dst e ⟨tm,d.df,d.rc,h⟩ k vs=true
  simp only [kK]at H
  unfold EM
  split at H
  · rename_i he
    simp only [he]
    split at H
    · rename_i v hv
      simp only [hv]
      rw [zA];exact key tm ⟨d.df,.mQ⟩ h v H
    · rename_i hv
      cases hr:d.rc with
      | can v=>exact absurd hr (hv v)
      | off=>simp only [zA];have:=key tm d h .nilIface H;rw [hr]at this;exact this
      | mQ=>simp only [zA];have:=key tm d h .nilIface H;rw [hr]at this;exact this
  · exact H.elim
 | panic =>
  show KB ⟨tm,d.df,d.rc,h⟩ (fun x s=>decide (Q x s.tm.get ⟨s.df,s.rc⟩ s.h)) vs=true
  simp only [kK]at H
  split at H
  · exact decide_eq_true H
  · exact H.elim
 | defer =>
  show EP dst e ⟨tm,d.df,d.rc,h⟩ k vs=true
  simp only [kK]at H
  unfold EP
  split at H
  · rename_i he
    simp only [he]
    show jF _ _ _=true
    rw [wR,wR,zA]
    exact key tm ⟨_::d.df,d.rc⟩ h undef H
  · exact H.elim
end
end
end Go.Ve
namespace Go.Ve
open Go.RowKit
open Classical
noncomputable section
section
variable {P:Program}{w0:World}
theorem ac8 (t:PT) (l:List eL):l.map (jW t)=l.map (fe t.get):=List.map_congr_left fun o _=>T4 t o
theorem guard_of {g:Option (Pos×Bool)}{t:PT}{yes no:Bool}(H:match g with
 | none=>yes=true
 | some (p,want)=>match t.get p with
  | .bool b=>(bif oo b want then yes else no)=true
  | _=>no=true):qe g t yes no=true:=by
 cases g with
 | none=>exact H
 | some pw =>
  obtain⟨p,want⟩:=pw
  show PT.ey p t (zd want yes no)=true
  rw [PT.lz]
  unfold zd
  revert H
  simp only []
  generalize t.get p=v
  intro H
  split
  · exact H
  · rename_i dr
    revert H
    split
    · rename_i b;exact absurd rfl (dr b)
    · exact fun H=>H
theorem ac9 {o:bS}{e:Env}{tm:PT}{d:DS}{h:AH}{Q:PQ}{K:Sl→DS→AH→Prop}{k:St→Bool}
 (hk:∀tm d h,K tm.get d h→k ⟨tm,d.df,d.rc,h⟩=true) (H:wpOp P w0 o e tm.get d h Q K) :
 wx (gM P w0) o e ⟨tm,d.df,d.rc,h⟩ (fun x s=>decide (Q x s.tm.get ⟨s.df,s.rc⟩ s.h)) k=true:=by
 obtain⟨dst,act,args,g⟩:=o
 show qe g tm (qd args tm (BX (gM P w0) act dst e ⟨tm,d.df,d.rc,h⟩ _ k)) (jI dst ⟨tm,d.df,d.rc,h⟩ undef h k)=true
 rw [B9,zA,ac8]
 have uR:K (Sl.gi tm.get dst undef) d h→k ⟨tm.zz dst undef,d.df,d.rc,h⟩=true:=fun hK=>hk (tm.zz dst undef) d h (by rw [Sl.ac6];exact hK)
 refine guard_of ?_
 unfold wpOp at H
 cases g with
 | none=>exact ac7 hk H
 | some pw =>
  obtain⟨p,want⟩:=pw
  revert H
  simp only []
  generalize tm.get p=v
  intro H
  cases v<;>first | exact uR H | skip
  rename_i b
  simp only at H ⊢
  cases hb:oo b want with
  | true=>rw [hb]at H;exact ac7 hk H
  | false=>rw [hb]at H;exact uR H
theorem amk {e:Env}{Q:PQ}:∀{l:List bS}{tm:PT}{d:DS}{h:AH},wpOps P w0 l e tm.get d h Q→EV (gM P w0) l e ⟨tm,d.df,d.rc,h⟩ (fun x s=>decide (Q x s.tm.get ⟨s.df,s.rc⟩ s.h))=true:=by
 intro l
 induction l with
 | nil=>intro tm d h H;exact decide_eq_true H
 | cons o l ih=>intro tm d h H;exact ac9 (k:=fun s=>EV (gM P w0) l e s _) (fun tm d h hK=>ih hK) H
theorem aml {o:bS}{tm:PT}{d:DS}{h:AH}(H:zB o tm.get h):B8 o ⟨tm,d.df,d.rc,h⟩=true:=by
 obtain⟨dst,act,args,g⟩:=o
 show qe g tm (qd args tm fun vs=>kB.casesOn (motive:=fun _=>Bool) act (Fq dst ⟨tm,d.df,d.rc,h⟩ vs) ot false false false false) true=true
 rw [B9,ac8]
 refine guard_of ?_
 have body:wP act dst (args.map (fe tm.get)) tm.get h→kB.casesOn (motive:=fun _=>Bool) act (Fq dst ⟨tm,d.df,d.rc,h⟩ (args.map (fe tm.get))) ot false false false false=true:=by
  intro H
  unfold wP at H
  cases act with
  | aU p =>
   cases dst with
   | none=>exact H.elim
   | some q =>
    show PT.ey q tm (fun v=>bif p.makes then p.fresh (args.map (fe tm.get)) (zo ⟨tm,d.df,d.rc,h⟩ v)else p.ev (args.map (fe tm.get)) h (Fp v))=true
    rw [PT.lz]
    simp only at H
    cases hm:p.makes with
    | true=>rw [hm]at H;exact H
    | false=>rw [hm]at H;exact H _ fun v h hv=>hv
  | _=>exact H.elim
 unfold zB at H
 cases g with
 | none=>exact body H
 | some pw =>
  obtain⟨p,want⟩:=pw
  revert H
  simp only []
  generalize tm.get p=v
  intro H
  cases v<;>first | exact trivial | skip
  rename_i b
  simp only at H ⊢
  cases hb:oo b want with
  | true=>rw [hb]at H;exact body H
  | false=>rfl
theorem amm {e:Env}{Q:PQ}:∀{l:List kC}{tm:PT}{d:DS}{h:AH},lG P w0 l e tm.get d h Q→qg (gM P w0) l e ⟨tm,d.df,d.rc,h⟩ (fun x s=>decide (Q x s.tm.get ⟨s.df,s.rc⟩ s.h))=true:=by
 intro l
 induction l with
 | nil=>intro tm d h H;exact decide_eq_true H
 | cons o l ih =>
  intro tm d h H
  cases o with
  | op i o=>exact ac9 (k:=fun s=>qg (gM P w0) l e s _) (fun tm d h hK=>ih hK) H
  | kR i o =>
   exact(iff_eq (B8 o ⟨tm,d.df,d.rc,h⟩) (qg (gM P w0) l e ⟨tm,d.df,d.rc,h⟩ fun x s=>decide (Q x s.tm.get ⟨s.df,s.rc⟩ s.h))).2 ⟨aml H.1,ih H.2⟩
theorem LC (bT:P.follows .mixedOrders=true):∀(c:dV){e:Env}{σ:Sl}{d:DS}{h:AH}{Q:PQ},eO P w0 c e σ d h Q→WC P w0 c e σ d h Q:=by
 intro c
 induction c with
 | skip=>intro e σ d h Q H tm eX;subst eX;exact sT bT (decide_eq_true H)
 | ops l=>intro e σ d h Q H tm eX;subst eX;exact sT bT (amk H)
 | draw l=>intro e σ d h Q H tm eX;subst eX;exact sT bT (amm H)
 | seq a b lH kZ =>
  intro e σ d h Q H tm eX
  subst eX
  refine sT bT (na P w0 (ed.zC (fun x s hx=> ?_) (lH H tm rfl)))
  have gD:=of_decide_eq_true hx
  cases x with
  | normal=>exact na P w0 (kZ gD s.tm rfl)
  | exit id=>exact decide_eq_true gD
  | ret=>exact decide_eq_true gD
  | aT v=>exact decide_eq_true gD
 | cond c a b lH kZ =>
  intro e σ d h Q H tm eX
  subst eX
  refine sT bT ?_
  show uB c tm (fun v=>uH v fun t=>Bool.casesOn (motive:=fun _=>Bool) t (gM P w0 (.code b e _ _)) (gM P w0 (.code a e _ _)))=true
  rw [TC,T4]
  simp only [eO]at H
  revert H
  cases fe tm.get c<;>intro H<;>first | exact H.elim | skip
  rename_i t
  cases t with
  | true=>exact na P w0 (lH H tm rfl)
  | false=>exact na P w0 (kZ H tm rfl)
 | block id c ih =>
  intro e σ d h Q H tm eX
  subst eX
  refine sT bT (na P w0 (ed.zC (fun x s hx=> ?_) (ih H tm rfl)))
  have gD:=of_decide_eq_true hx
  cases x with
  | normal=>exact decide_eq_true gD
  | exit j =>
   show(bif Nat.beq j id then _ else _)=true
   have FO:bif Nat.beq j id then Q .normal s.tm.get ⟨s.df,s.rc⟩ s.h else Q (.exit j) s.tm.get ⟨s.df,s.rc⟩ s.h:=gD
   cases hj:Nat.beq j id with
   | true=>rw [hj]at FO;exact decide_eq_true FO
   | false=>rw [hj]at FO;exact decide_eq_true FO
  | ret=>exact decide_eq_true gD
  | aT v=>exact decide_eq_true gD
 | loop c ih=>intro e σ d h Q H;exact H
 | pU f ps a b lH kZ=>intro e σ d h Q H;exact H
 | exit id=>intro e σ d h Q H tm eX;subst eX;exact sT bT (decide_eq_true H)
 | ret=>intro e σ d h Q H tm eX;subst eX;exact sT bT (decide_eq_true H)
theorem T6 (bT:P.follows .mixedOrders=true){c:dV}{e:Env}{σ:Sl}{d:DS}{h:AH}{Q:PQ}(H:eO P w0 c e σ d h (wQ (fun σ d h=>WC P w0 (.loop c) e σ d h Q) Q)):WC P w0 (.loop c) e σ d h Q:=by
 intro tm eX
 subst eX
 refine sT bT (na P w0 (ed.zC (fun x s hx=> ?_) (LC bT c H tm rfl)))
 have gD:=of_decide_eq_true hx
 cases x with
 | normal=>exact na P w0 ((show WC P w0 (.loop c) e s.tm.get ⟨s.df,s.rc⟩ s.h Q from gD) s.tm rfl)
 | exit id=>exact decide_eq_true gD
 | ret=>exact decide_eq_true gD
 | aT v=>exact decide_eq_true gD
theorem ada {act:kB}{dst:Option Pos}{e:Env}{σ:Sl}{d:DS}{h:AH}{vs:List Value}{Q Q':PQ}{K K':Sl→DS→AH→Prop}(hQ:∀x σ d h,Q x σ d h→Q' x σ d h) (hK:∀σ d h,K σ d h→K' σ d h)
 (H:kK P w0 act dst e σ d h vs Q K):kK P w0 act dst e σ d h vs Q' K':=by
 have r:∀(r:CR) (h:AH),(match r with | .ret v=>K (σ.gi dst v) d h | .aT v=>Q (.aT v) σ d h:Prop)→(match r with | .ret v=>K' (σ.gi dst v) d h | .aT v=>Q' (.aT v) σ d h:Prop):=fun r h hr=>by
  cases r with
  | ret v=>exact hK _ _ _ hr
  | aT v=>exact hQ _ _ _ _ hr
 cases act with
 | aU p=>exact WP.mono (fun v h hv=>hK _ _ _ hv) H
 | call f=>exact WF.mono r H
 | dyn =>
  simp only [kK]at H ⊢
  split at H
  · exact WF.mono r H
  · exact WR.mono r H
  · exact H.elim
 | recover =>
  simp only [kK]at H ⊢
  split at H
  · split at H
    · exact hK _ _ _ H
    · exact hK _ _ _ H
  · exact H.elim
 | panic =>
  simp only [kK]at H ⊢
  split at H
  · exact hQ _ _ _ _ H
  · exact H.elim
 | defer =>
  simp only [kK]at H ⊢
  split at H
  · exact hK _ _ _ H
  · exact H.elim
theorem wpOp_mono {o:bS}{e:Env}{σ:Sl}{d:DS}{h:AH}{Q Q':PQ}{K K':Sl→DS→AH→Prop}(hQ:∀x σ d h,Q x σ d h→Q' x σ d h) (hK:∀σ d h,K σ d h→K' σ d h)
 (H:wpOp P w0 o e σ d h Q K):wpOp P w0 o e σ d h Q' K':=by
 obtain⟨dst,act,args,g⟩:=o
 unfold wpOp at H ⊢
 cases g with
 | none=>exact ada hQ hK H
 | some pw =>
  obtain⟨p,want⟩:=pw
  revert H
  simp only []
  generalize σ p=v
  intro H
  cases v<;>first | exact hK _ _ _ H | skip
  rename_i b
  simp only at H ⊢
  revert H
  cases oo b want with
  | true=>exact fun H=>ada hQ hK H
  | false=>exact fun H=>hK _ _ _ H
theorem amn {e:Env}{Q Q':PQ}(hQ:∀x σ d h,Q x σ d h→Q' x σ d h):∀{l:List bS}{σ:Sl}{d:DS}{h:AH},wpOps P w0 l e σ d h Q→wpOps P w0 l e σ d h Q':=by
 intro l
 induction l with
 | nil=>intro σ d h H;exact hQ _ _ _ _ H
 | cons o l ih=>intro σ d h H;exact wpOp_mono hQ (fun _ _ _=>ih) H
theorem amo {e:Env}{Q Q':PQ}(hQ:∀x σ d h,Q x σ d h→Q' x σ d h):∀{l:List kC}{σ:Sl}{d:DS}{h:AH},lG P w0 l e σ d h Q→lG P w0 l e σ d h Q':=by
 intro l
 induction l with
 | nil=>intro σ d h H;exact hQ _ _ _ _ H
 | cons o l ih =>
  intro σ d h H
  cases o with
  | op i o=>exact wpOp_mono hQ (fun _ _ _=>ih) H
  | kR i o=>exact⟨H.1,ih H.2⟩
theorem LD:∀(c:dV){e:Env}{σ:Sl}{d:DS}{h:AH}{Q Q':PQ},(∀x σ d h,Q x σ d h→Q' x σ d h)→eO P w0 c e σ d h Q→eO P w0 c e σ d h Q':=by
 intro c
 induction c with
 | skip=>intro e σ d h Q Q' hQ H;exact hQ _ _ _ _ H
 | ops l=>intro e σ d h Q Q' hQ H;exact amn hQ H
 | draw l=>intro e σ d h Q Q' hQ H;exact amo hQ H
 | seq a b lH kZ =>
  intro e σ d h Q Q' hQ H
  refine lH (fun x σ d h hx=> ?_) H
  cases x with
  | normal=>exact kZ hQ hx
  | _=>exact hQ _ _ _ _ hx
 | cond c a b lH kZ =>
  intro e σ d h Q Q' hQ H
  simp only [eO]at H ⊢
  revert H
  cases fe σ c<;>intro H<;>first | exact H.elim | skip
  rename_i t
  revert H
  cases t with
  | true=>exact fun H=>lH hQ H
  | false=>exact fun H=>kZ hQ H
 | block id c ih =>
  intro e σ d h Q Q' hQ H
  refine ih (fun x σ d h hx=> ?_) H
  cases x with
  | exit j =>
   have gD:bif Nat.beq j id then Q .normal σ d h else Q (.exit j) σ d h:=hx
   show bif Nat.beq j id then Q' .normal σ d h else Q' (.exit j) σ d h
   cases hj:Nat.beq j id with
   | true=>rw [hj]at gD;exact hQ _ _ _ _ gD
   | false=>rw [hj]at gD;exact hQ _ _ _ _ gD
  | _=>exact hQ _ _ _ _ hx
 | loop c ih=>intro e σ d h Q Q' hQ H;exact WC.mono hQ H
 | pU f ps a b lH kZ=>intro e σ d h Q Q' hQ H;exact WC.mono hQ H
 | exit id=>intro e σ d h Q Q' hQ H;exact hQ _ _ _ _ H
 | ret=>intro e σ d h Q Q' hQ H;exact hQ _ _ _ _ H
def LF (vs:List Value):Sl:=fun p=>vs.getD p.un undef
def nS:List mN→Sl→AH→(List Value→Prop)→Prop
 | [],_,_,K=>K []
 | .tmp p::rs,σ,h,K=>nS rs σ h fun vs=>K (σ p::vs)
 | .cell p none::rs,σ,h,K=>WP .aH [σ p] h fun v _=>nS rs σ h fun vs=>K (v::vs)
 | .cell p (some n)::rs,σ,h,K=>WP (.bV n) [σ p] h fun v _=>nS rs σ h fun vs=>K (v::vs)
def zD:List Value→Value
 | [v]=>v
 | vs=>.tuple ⟨vs⟩
def FP (P:Program) (w0:World) (rs:List mN) (R:CR→AH→Prop):PQ:=fun x σ d h=>match x with
 | .aT v=>WL P w0 d.df (some v) h fun m h=>match m with
  | none=>rs=[]∧R (.ret (.tuple ⟨[]⟩)) h
  | some v=>R (.aT v) h
 | .exit _=>False
 | _=>WL P w0 d.df none h fun m h=>match m with
  | none=>nS rs σ h fun vs=>R (.ret (zD vs)) h
  | some v=>R (.aT v) h
theorem amp {tm:PT}{h:AH}:∀{rs:List mN}{K:List Value→Prop}{k:List Value→Bool},(∀vs,K vs→k vs=true)→nS rs tm.get h K→mh rs tm h k=true:=by
 intro rs
 induction rs with
 | nil=>intro K k hk H;exact hk _ H
 | cons r rs ih =>
  intro K k hk H
  cases r with
  | tmp p =>
   show PT.ey p tm (fun v=>mh rs tm h fun vs=>k (v::vs))=true
   rw [PT.lz]
   exact ih (fun vs hv=>hk _ hv) H
  | cell p n =>
   cases n with
   | none =>
    show PT.ey p tm (fun v=>jU v fun b o=>sG h b o fun x=>mh rs tm h fun vs=>k (x::vs))=true
    rw [PT.lz]
    exact H (fun v _=>mh rs tm h fun vs=>k (v::vs)) fun v h' hv=>ih (fun vs hv=>hk _ hv) hv
   | some n =>
    show PT.ey p tm (fun v=>jU v fun b o=>lU h b o n fun l=>mh rs tm h fun vs=>k (.agg ⟨l⟩::vs))=true
    rw [PT.lz]
    exact H (fun v _=>mh rs tm h fun vs=>k (v::vs)) fun v h' hv=>ih (fun vs hv=>hk _ hv) hv
theorem amq (vs:List Value) (k:Value→Bool):E6 vs k=k (zD vs):=by
 cases vs with
 | nil=>rfl
 | cons a l=>cases l<;>rfl
theorem T7 {ds:List gV}{m:Option Value}{h:AH}{K:Option Value→AH→Prop}{k:Option Value→AH→Bool}(hk:∀m h,K m h→k m h=true) (H:WL P w0 ds m h K):gM P w0 (.leave ds m h k)=true:=by
 cases ds with
 | nil=>exact na P w0 (Ss (rec:=gM P w0) (FN P w0) (show Su (gM P w0) [] m h k=true from hk _ _ H))
 | cons a l=>exact na P w0 (om.mono (fun r h hr=>hk _ _ (of_decide_eq_true hr)) H)
theorem amr {rs:List mN}{R:CR→AH→Prop}{x:AX}{s:St}(H:FP P w0 rs R x s.tm.get ⟨s.df,s.rc⟩ s.h):E8 (gM P w0) rs (fun r h=>decide (R r h)) x s=true:=by
 have hn:WL P w0 s.df none s.h (fun m h=>match m with | none=>nS rs s.tm.get h fun vs=>R (.ret (zD vs)) h | some v=>R (.aT v) h)→gM P w0 (.leave s.df none s.h (E9 rs s.tm fun r h=>decide (R r h)))=true:=fun H =>
  T7 (fun m h hm=>by
   cases m with
   | none =>
    show mh rs s.tm h (fun vs=>E6 vs fun v=>decide (R (.ret v) h))=true
    exact amp (fun vs hv=>by rw [amq];exact decide_eq_true hv) hm
   | some v=>exact decide_eq_true hm) H
 cases x with
 | normal=>exact hn H
 | ret=>exact hn H
 | exit id=>exact H.elim
 | aT v =>
  have H':WL P w0 s.df (some v) s.h (fun m h=>match m with | none=>rs=[]∧R (.ret (.tuple ⟨[]⟩)) h | some v=>R (.aT v) h):=H
  refine T7 (fun m h hm=> ?_) H'
  cases m with
  | none =>
   obtain⟨h1,h2⟩:=hm
   subst h1
   exact decide_eq_true h2
  | some v=>exact decide_eq_true hm
theorem ams {args:List Value}{tm:PT}(eX:∀p:Pos,tm.get p=if 0≤p.un∧p.un<0+args.length then args.getD (p.un-0) undef else PT.e.get p):tm.get=LF args:=by
 funext p
 rw [eX p]
 unfold LF
 split
 · rfl
 · rw [PT.ZY]
   have:¬p.un<args.length:=by omega
   simp [List.getD,this]
theorem O7 (bT:P.follows .mixedOrders=true){f:FuncId}{af:jD}(hf:ct P f=some af){args:List Value}{h:AH}{R:CR→AH→Prop}
 (H:eO P w0 af.code ⟨f,af.ntmps,none⟩ (LF args) ⟨[],.off⟩ h (FP P w0 af.results R)):WF P w0 f args h R:=by
 refine aaZ (FN P w0) hf ?_
 obtain⟨nt,rs,code,dt⟩:=af
 show uC 0 args .e (fun tm=>gM P w0 (.code code ⟨f,nt,none⟩ ⟨tm,[],.off,h⟩ (E8 (gM P w0) rs _)))=true
 have lay:∀(vs:List Value) (i:Nat) (t:PT) (k:PT→Bool),(∀t':PT,(∀p:Pos,t'.get p=if i≤p.un∧p.un<i+vs.length then vs.getD (p.un-i) undef else t.get p)→k t'=true)→uC i vs t k=true:=by
  intro vs
  induction vs with
  | nil=>intro i t k hk;exact hk t fun p=>by rw [if_neg (by simp)]
  | cons v vs ih =>
   intro i t k hk
   show PT.iY (Pos.of i) t v (fun t=>uC (i+1) vs t k)=true
   rw [PT.nJ]
   refine ih _ _ _ fun t' wC=>hk t' fun p=> ?_
   rw [wC,PT.eK]
   by_cases h3:p.un=i
   · have hp:p=Pos.of i:=Pos.wa (by rw [Pos.mM];exact h3)
     rw [if_neg (by omega),if_pos hp,if_pos (by simp;omega)]
     simp [h3]
   · have hp:¬p=Pos.of i:=fun e=>h3 (by rw [e,Pos.mM])
     by_cases h4:i+1≤p.un∧p.un<i+1+vs.length
     · rw [if_pos h4,if_pos (by simp;omega)]
       have:p.un-i=(p.un-(i+1))+1:=by omega
       rw [this];simp
     · rw [if_neg h4,if_neg hp,if_neg (by simp;omega)]
 refine lay args 0 .e _ fun tm eX=> ?_
 exact na P w0 (ed.zC (fun x s hx=>amr (of_decide_eq_true hx)) (LC bT code H tm (ams eX)))
def AH.Ok (h:AH):Prop:=∀f,h.nx≤f→h.ob.get f=none
end
end
end Go.Ve
namespace Go.Ve
open Go.RowKit
noncomputable section
theorem gj (k:Bool):iff true k=k:=rfl
theorem qv (k:IntKind):gK k k=true:=by cases k<;>rfl
theorem amt (a b:Nat):Nat.beq a b=decide (a=b):=by
 by_cases h:a=b
 · subst h;simp
 · rw [gg h];simp [h]
theorem FQ (a b:Int):mT a b=decide (a=b):=by
 rw [Bool.eq_iff_iff,decide_eq_true_iff]
 cases a<;>cases b<;>simp only [mT,amt,decide_eq_true_iff]
 · exact Int.ofNat_inj.symm
 · constructor
   · intro h;cases h
   · intro h;cases h
 · constructor
   · intro h;cases h
   · intro h;cases h
 · constructor
   · intro h;rw [h]
   · intro h;cases h;rfl
theorem LG (a b:Int):oq a b=decide (a<b):=by
 rw [Bool.eq_iff_iff,decide_eq_true_iff]
 cases a<;>cases b<;>simp only [oq]
 · rename_i a b
   show Nat.ble (a+1) b=true↔_
   rw [Nat.ble_eq]
   show a+1≤b↔(a:Int)<(b:Int)
   omega
 · rename_i a b
   constructor
   · intro h;cases h
   · intro h;have h':(a:Int)<Int.negSucc b:=h;omega
 · rename_i a b
   constructor
   · intro _;show Int.negSucc a<(b:Int);omega
   · intro _;first | trivial | rfl
 · rename_i a b
   show Nat.ble (b+1) a=true↔Int.negSucc a<Int.negSucc b
   rw [Nat.ble_eq]
   omega
theorem jY {n:Int}(h1: -9223372036854775808≤n) (h2:n≤9223372036854775807):bD .i64 n=n:=by
 cases n with
 | ofNat a =>
  show(bif Nat.ble a uF then(Int.ofNat a)else _)=_
  have:Nat.ble a uF=true:=by rw [Nat.ble_eq];have:((a:Nat):Int)≤9223372036854775807:=h2;show a≤9223372036854775807;omega
  rw [this];rfl
 | negSucc a =>
  show(bif Nat.ble a uF then(Int.negSucc a)else _)=_
  have:Nat.ble a uF=true:=by rw [Nat.ble_eq];show a≤9223372036854775807;omega
  rw [this];rfl
theorem adb:∀(a b:List UInt8),lE a b=decide (a=b)
 | [],[]=>by simp [lE]
 | [],b::m=>by simp [lE]
 | a::l,[]=>by simp [lE]
 | a::l,b::m=>by
  simp only [lE]
  rw [adb l m]
  by_cases h:a=b
  · subst h;simp
  · have:a.toNat≠b.toNat:=fun e=>h (UInt8.toNat_inj.1 e)
    rw [gg this];simp [h]
def AH.rd (h:AH) (b o:Nat):Option Value:=match h.ob.get b with
 | some (.cells lo hi _ _ c)=>if lo≤o∧o+1≤hi then c.get o else none
 | _=>none
def AH.can (h:AH) (b o n:Nat):Prop:=∃lo hi ty c,h.ob.get b=some (.cells lo hi ty true c)∧lo≤o∧o+n≤hi
def kL:NT Value→Nat→List Value→NT Value
 | c,_,[]=>c
 | c,i,v::l=>kL (c.set i (some v)) (i+1) l
def AH.wr (h:AH) (b o:Nat) (l:List Value):AH:=match h.ob.get b with
 | some (.cells lo hi ty rw c)=>⟨h.nx,h.ob.set b (some (.cells lo hi ty rw (kL c o l)))⟩
 | _=>h
def AH.new (h:AH) (ty:TypeId) (l:List Value):AH:=⟨h.nx+1,h.ob.set h.nx (some (.cells 0 l.length ty true (kL .e 0 l)))⟩
theorem LH:∀(l:List Value) (c:NT Value) (i:Nat) (k:NT Value→Bool),zj c i l k=k (kL c i l)
 | [],c,i,k=>rfl
 | v::l,c,i,k=>by
  show NT.iY (qQ i) c i (some v) (fun c'=>fN (Nat.succ i) fun i'=>zj c' i' l k)=_
  rw [NT.nJ,cz,LH l]
  rfl
theorem zE:∀(l:List Value) (c:NT Value) (i j:Nat),(kL c i l).get j=if i≤j∧j<i+l.length then l[j-i]? else c.get j
 | [],c,i,j=>by
  rw [if_neg (fun h=>by have:=h.2;simp at this;omega)];rfl
 | v::l,c,i,j=>by
  show(kL (c.set i (some v)) (i+1) l).get j=_
  rw [zE l,NT.eK]
  by_cases h:j=i
  · subst h
    rw [if_neg (by omega),if_pos rfl,if_pos (by simp)]
    simp
  · rw [if_neg h]
    by_cases h2:i+1≤j∧j<i+1+l.length
    · rw [if_pos h2,if_pos (by simp;omega)]
      have:j-i=(j-(i+1))+1:=by omega
      rw [this];simp
    · rw [if_neg h2,if_neg (by simp;omega)]
theorem AH.LJ (h:AH) (ty:TypeId) (l:List Value) (b o:Nat):(h.new ty l).rd b o=if b=h.nx then l[o]? else h.rd b o:=by
 unfold AH.rd AH.new
 simp only [NT.eK]
 by_cases e:b=h.nx
 · subst e
   simp only [if_true]
   rw [zE]
   by_cases ho:o<l.length
   · rw [if_pos (by omega),if_pos (by omega)];rfl
   · rw [if_neg (by omega)];simp [Nat.le_of_not_lt ho]
 · simp only [if_neg e]
theorem AH.T9 (h:AH) (ty:TypeId) (l:List Value):(h.new ty l).nx=h.nx+1:=rfl
theorem AH.uU {h:AH}(H:h.Ok) (ty:TypeId) (l:List Value):(h.new ty l).Ok:=fun f hf=>by
 have:h.nx+1≤f:=hf
 show(h.ob.set h.nx _).get f=none
 rw [NT.eK,if_neg (by omega)]
 exact H f (by omega)
theorem AH.Ua (h:AH) (ty:TypeId) (l:List Value){o n:Nat}(hn:o+n≤l.length):(h.new ty l).can h.nx o n :=
 ⟨0,l.length,ty,_,by show(h.ob.set h.nx _).get h.nx=_;rw [NT.eK,if_pos rfl],Nat.zero_le _,hn⟩
theorem AH.amu {h:AH}(ty:TypeId) (l:List Value){b o n:Nat}(H:h.can b o n) (hb:b≠h.nx):(h.new ty l).can b o n:=by
 obtain⟨lo,hi,cJ,c,h1,h2,h3⟩:=H
 exact⟨lo,hi,cJ,c,by show(h.ob.set h.nx _).get b=_;rw [NT.eK,if_neg hb];exact h1,h2,h3⟩
theorem AH.nb (h:AH) (b o:Nat) (l:List Value):(h.wr b o l).nx=h.nx:=by unfold AH.wr;split<;>rfl
theorem AH.wS (h:AH){b o:Nat}{l:List Value}{b':Nat}(hb:b'≠b):(h.wr b o l).ob.get b'=h.ob.get b':=by
 unfold AH.wr;split
 · simp only [NT.eK,if_neg hb]
 · rfl
theorem AH.wT {h:AH}{b o n:Nat}{l:List Value}(H:h.can b o n) (hl:l.length≤n) (b' o':Nat):(h.wr b o l).rd b' o'=if b'=b∧o≤o'∧o'<o+l.length then l[o'-o]? else h.rd b' o':=by
 obtain⟨lo,hi,ty,c,h1,h2,h3⟩:=H
 by_cases e:b'=b
 · subst e
   unfold AH.rd AH.wr
   simp only [h1,NT.eK,if_true]
   rw [zE]
   by_cases ho:o≤o'∧o'<o+l.length
   · simp only [ho,and_self,if_true]
     rw [if_pos (by omega)]
   · simp only [true_and,if_neg ho]
 · rw [if_neg (fun h=>e h.1)]
   unfold AH.rd
   rw [AH.wS h e]
theorem AH.LK {h:AH}{b o:Nat}{l:List Value}{b' o' n':Nat}(H:h.can b' o' n'):(h.wr b o l).can b' o' n':=by
 by_cases e:b'=b
 · subst e
   obtain⟨lo,hi,ty,c,h1,h2,h3⟩:=H
   unfold AH.can AH.wr
   simp only [h1,NT.eK,if_true]
   exact⟨lo,hi,ty,_,rfl,h2,h3⟩
 · obtain⟨lo,hi,ty,c,h1,h2,h3⟩:=H
   exact⟨lo,hi,ty,c,by rw [AH.wS h e];exact h1,h2,h3⟩
theorem AH.uV {h:AH}(H:h.Ok) (b o:Nat) (l:List Value):(h.wr b o l).Ok:=fun f hf=>by
 rw [AH.nb]at hf
 unfold AH.wr
 split
 · rename_i lo hi ty rw c heq
   show(h.ob.set b _).get f=none
   rw [NT.eK]
   by_cases e:f=b
   · subst e;rw [H f hf]at heq;cases heq
   · rw [if_neg e];exact H f hf
 · exact H f hf
theorem AH.lt_of_get {h:AH}(H:h.Ok){b:Nat}{o:AO}(hr:h.ob.get b=some o):b<h.nx:=by
 rcases Nat.lt_or_ge b h.nx with h1 | h1
 · exact h1
 · rw [H b h1]at hr;cases hr
theorem AH.amv {h:AH}{b o:Nat}{v:Value}(hr:h.rd b o=some v):∃a,h.ob.get b=some a:=by
 unfold AH.rd at hr
 split at hr
 · rename_i heq;exact⟨_,heq⟩
 · cases hr
theorem AH.amw {h:AH}(H:h.Ok){b o:Nat}{v:Value}(hr:h.rd b o=some v):b<h.nx:=by
 obtain⟨a,ha⟩:=AH.amv hr;exact AH.lt_of_get H ha
structure dT (h h':AH):Prop where
 nx:h.nx≤h'.nx
 get:∀b,b<h.nx→h'.ob.get b=h.ob.get b
theorem dT.refl (h:AH):dT h h:=⟨Nat.le_refl _,fun _ _=>rfl⟩
theorem dT.trans {a b c:AH}(h1:dT a b) (h2:dT b c):dT a c:=⟨Nat.le_trans h1.nx h2.nx,fun f hf=>(h2.get f (Nat.lt_of_lt_of_le hf h1.nx)).trans (h1.get f hf)⟩
theorem dT.new (h:AH) (ty:TypeId) (l:List Value):dT h (h.new ty l):=⟨Nat.le_succ _,fun f hf=>by show(h.ob.set h.nx _).get f=_;rw [NT.eK,if_neg (by omega)]⟩
theorem dT.wr {a h:AH}(H:dT a h){b:Nat}(hb:a.nx≤b) (o:Nat) (l:List Value):dT a (h.wr b o l) :=
 ⟨by rw [AH.nb];exact H.nx,fun f hf=>by rw [AH.wS h (by omega)];exact H.get f hf⟩
theorem dT.rd {h h':AH}(H:dT h h') (gB:h.Ok){b o:Nat}{v:Value}(hr:h.rd b o=some v):h'.rd b o=some v:=by
 have:=AH.amw gB hr
 unfold AH.rd at hr ⊢
 rw [H.get b this];exact hr
def AH.bE (h:AH) (b o:Nat) (l:List Value):Prop:=∀i v,l[i]? =some v→h.rd b (o+i)=some v
theorem AH.Ub (h:AH) (b o:Nat):h.bE b o []:=fun i v hv=>by simp at hv
theorem AH.ade {h:AH}{b o:Nat}{v:Value}{l:List Value}:h.bE b o (v::l)↔h.rd b o=some v∧h.bE b (o+1) l:=by
 constructor
 · intro H
   exact⟨H 0 v rfl,fun i u hu=>by have:=H (i+1) u (by simpa using hu);rwa [show o+(i+1)=o+1+i by omega]at this⟩
 · rintro⟨h1,h2⟩ i u hu
   cases i with
   | zero=>simp at hu;subst hu;exact h1
   | succ i=>have:=h2 i u (by simpa using hu);rwa [show o+1+i=o+(i+1) by omega]at this
theorem dT.bE {h h':AH}(H:dT h h') (gB:h.Ok){b o:Nat}{l:List Value}(hr:h.bE b o l):h'.bE b o l:=fun i v hv=>H.rd gB (hr i v hv)
theorem AH.LM (h:AH) (ty:TypeId) (l:List Value):(h.new ty l).bE h.nx 0 l:=fun i v hv=>by rw [AH.LJ,if_pos rfl,Nat.zero_add];exact hv
theorem Uc {α:Type}{t:NT α}:∀{i:Nat}{k:α→Bool}{x:α},t.get i=some x→t.ey i k=k x:=by
 induction t with
 | e=>intro i k x h;cases h
 | n l v r Ud ihr =>
  intro i k x hx
  rw [NT.RE]
  rw [NT.get]at hx
  cases h0:Nat.beq i 0 with
  | true=>rw [h0]at hx;cases v with
   | none=>cases hx
   | some y=>cases hx;rfl
  | false =>
   rw [h0]at hx
   cases h1:Nat.beq (Nat.mod i 2) 1 with
   | true=>rw [h1]at hx;exact Ud hx
   | false=>rw [h1]at hx;exact ihr hx
theorem wU {h:AH}{b:Nat}{o:AO}(ho:h.ob.get b=some o) (k:AO→Bool):pk h b k=k o:=by
 cases h;exact Uc ho
theorem Ue (h:AH) (b:Nat) (o:Option AO) (k:AH→Bool):iK h b o k=k ⟨h.nx,h.ob.set b o⟩:=by
 cases h with
 | mk nx ob=>exact NT.nJ ob b o fun bj=>k ⟨nx,bj⟩
theorem Uf (h:AH) (o:AO) (k:Nat→AH→Bool):mV h o k=k h.nx ⟨h.nx+1,h.ob.set h.nx (some o)⟩:=by
 cases h with
 | mk nx ob =>
  show NT.iY (qQ nx) ob nx (some o) (fun bj=>fN (Nat.succ nx) fun sK=>k nx ⟨sK,bj⟩)=_
  rw [NT.nJ,cz]
theorem zF (h:AH) (ty:TypeId){l:List Value}(ha:dP l=true) (k:Nat→AH→Bool):lV h ty l k=k h.nx (h.new ty l):=by
 unfold lV
 rw [ha,gj,LH,cz,Uf]
 rfl
theorem adf (c:NT Value):∀(l:List Value) (i:Nat) (k:List Value→Bool),(∀j v,l[j]? =some v→c.get (i+j)=some v)→qm c i l.length k=k l
 | [],i,k,_=>rfl
 | v::l,i,k,H=>by
  show NT.ey c i (fun v=>fN (Nat.succ i) fun i'=>qm c i' l.length fun l=>k (v::l))=_
  rw [Uc (by have:=H 0 v rfl;rwa [Nat.add_zero]at this),cz,adf c l (i+1) _ fun j u hu=>by
   have:=H (j+1) u (by simpa using hu);rwa [show i+(j+1)=i+1+j by omega]at this]
theorem LN {h:AH}{b o:Nat}{v:Value}(hr:h.rd b o=some v):∃lo hi ty rw c,h.ob.get b=some (.cells lo hi ty rw c)∧lo≤o∧o+1≤hi∧c.get o=some v:=by
 unfold AH.rd at hr
 split at hr
 · rename_i lo hi ty rw c heq
   split at hr
   · rename_i hb;exact⟨lo,hi,ty,rw,c,heq,hb.1,hb.2,hr⟩
   · cases hr
 · cases hr
theorem amx {h:AH}{b o:Nat}{v:Value}(hr:h.rd b o=some v) (k:Value→Bool):sG h b o k=k v:=by
 obtain⟨lo,hi,ty,rw,c,h1,h2,h3,h4⟩:=LN hr
 unfold sG mW
 rw [wU h1]
 show iff (Nat.ble lo o&&Nat.ble (Nat.succ o) hi) (NT.ey c o k)=_
 have e:(Nat.ble lo o&&Nat.ble (Nat.succ o) hi)=true:=by simp only [Bool.and_eq_true,Nat.ble_eq];exact⟨h2,h3⟩
 rw [e,gj,Uc h4]
theorem amy {h:AH}{b o:Nat}{l:List Value}(hr:h.bE b o l) (hl:0<l.length):∃lo hi ty rw c,h.ob.get b=some (.cells lo hi ty rw c)∧lo≤o∧o+l.length≤hi∧∀j v,l[j]? =some v→c.get (o+j)=some v:=by
 obtain⟨lo,hi,ty,rw,c,h1,h2,h3,h4⟩:=LN (hr 0 l[0] (by simp [hl]))
 have key:∀j v,l[j]? =some v→lo≤o+j∧o+j+1≤hi∧c.get (o+j)=some v:=by
  intro j v hv
  obtain⟨wV,dK,cJ,oh,c',g1,g2,g3,g4⟩:=LN (hr j v hv)
  rw [h1]at g1;cases g1
  exact⟨g2,g3,g4⟩
 refine⟨lo,hi,ty,rw,c,h1,h2, ?_,fun j v hv=>(key j v hv).2.2⟩
 have:=(key (l.length-1) l[l.length-1] (by simp [hl])).2.1
 omega
theorem LQ {h:AH}{b o n:Nat}{l:List Value}(hr:h.bE b o l) (hn:l.length=n) (hl:0<n) (k:List Value→Bool):lU h b o n k=k l:=by
 subst hn
 obtain⟨lo,hi,ty,rw,c,h1,h2,h3,h4⟩:=amy hr hl
 unfold lU mW
 rw [wU h1]
 show iff (Nat.ble lo o&&Nat.ble (Nat.add o l.length) hi) (qm c o l.length k)=_
 have e:(Nat.ble lo o&&Nat.ble (Nat.add o l.length) hi)=true:=by simp only [Bool.and_eq_true,Nat.ble_eq];exact⟨h2,h3⟩
 rw [e,gj,adf c l o k h4]
theorem LU {h:AH}{b o:Nat}{l:List Value}(hc:h.can b o l.length) (ha:dP l=true) (k:AH→Bool):re h b o l k=k (h.wr b o l):=by
 obtain⟨lo,hi,ty,c,h1,h2,h3⟩:=hc
 unfold re mW
 rw [wU h1]
 show iff (true&&Nat.ble lo o&&Nat.ble (Nat.add o l.length) hi&&dP l) _=_
 have e:(true&&Nat.ble lo o&&Nat.ble (Nat.add o l.length) hi&&dP l)=true:=by simp only [Bool.and_eq_true,Nat.ble_eq];exact⟨⟨⟨trivial,h2⟩,h3⟩,ha⟩
 rw [e,gj,LH,Ue]
 unfold AH.wr
 rw [h1]
theorem wW:∀(l:List Value) (n:Nat),jT l n=decide (l.length=n)
 | [],0=>rfl
 | [],n+1=>by show false=_;simp
 | v::l,0=>by show false=_;simp
 | v::l,n+1=>by show jT l n=_;rw [wW l n];simp
section
variable {h:AH}{R:Value→AH→Prop}
theorem zG {x:Value}:WP .move [x] h R↔R x h:=dF fun _=>rfl
theorem bf {c:Bool}{a b:Value}:WP .pick [.bool c,a,b] h R↔R (bif c then a else b) h:=dF fun k=>by cases c<;>rfl
theorem FR {ty:TypeId}{zero:List Value}(ha:dP zero=true):WP (.alloc ty zero) [] h R↔R (au h.nx 0) (h.new ty zero):=dF fun k=>zF h ty ha _
theorem LV {ty:TypeId}{v:Value}(ha:dP (cellsOf v)=true):WP (.box ty) [v] h R↔R (au h.nx 0) (h.new ty (cellsOf v)):=dF fun k=>zF h ty ha _
abbrev eR (b o n c:Nat):Value:=.slice (some ⟨b,o,none⟩) n c
abbrev vi (n:Int):Value:=.int .i64 n
abbrev cg:Value:=.slice none 0 0
theorem LW {b o:Nat}{s:Option Nat}{v:Value}(hr:h.rd b o=some v):WP .aH [.pointer (some ⟨b,o,s⟩)] h R↔R v h:=dF fun _=>amx hr _
theorem LX {b o n:Nat}{s:Option Nat}{l:List Value}(hr:h.bE b o l) (hn:l.length=n) (h0:0<n):WP (.bV n) [.pointer (some ⟨b,o,s⟩)] h R↔R (.agg ⟨l⟩) h:=dF fun _=>LQ hr hn h0 _
theorem LY {b o n:Nat}{s:Option Nat}{v:Value}(hc:h.can b o n) (hn:(cellsOf v).length=n) (ha:dP (cellsOf v)=true):WP (.store n) [.pointer (some ⟨b,o,s⟩),v] h R↔R undef (h.wr b o (cellsOf v)) :=
 dF fun k=>by
  show iff (jT (cellsOf v) n) (re h b o (cellsOf v) fun h=>k undef h)=_
  rw [wW,decide_eq_true hn,gj,LU (by rw [hn];exact hc) ha]
theorem bC {b o off:Nat}{s:Option Nat}:WP (.fieldAddr off) [.pointer (some ⟨b,o,s⟩)] h R↔R (au b (o+off)) h:=dF fun k=>by
 show fN (Nat.add o off) (fun o'=>k (au b o') h)=_
 rw [cz];rfl
theorem LZ:∀{l:List Value}{i:Nat}{v:Value}(_:l[i]? =some v) (k:Value→Bool),ql l i k=k v
 | [],i,v,h,k=>by simp at h
 | x::l,0,v,h,k=>by simp at h;subst h;rfl
 | x::l,i+1,v,h,k=>by show ql l i k=_;exact LZ (by simpa using h) k
theorem Ug:∀{l:List Value}{i:Nat}(_:i≤l.length) (k:List Value→Bool),sJ l i k=k (l.drop i)
 | [],0,h,k=>rfl
 | [],i+1,h,k=>by simp at h
 | x::l,0,h,k=>rfl
 | x::l,i+1,h,k=>by show sJ l i k=_;rw [Ug (by simpa using h)];rfl
theorem Uh:∀{l:List Value}{i:Nat}(_:i≤l.length) (k:List Value→Bool),sI l i k=k (l.take i)
 | [],0,h,k=>rfl
 | [],i+1,h,k=>by simp at h
 | x::l,0,h,k=>rfl
 | x::l,i+1,h,k=>by show sI l i (fun l'=>k (x::l'))=_;rw [Uh (by simpa using h)];rfl
theorem amz {sz b o n c i:Nat}{kd:IntKind}{s:Option Nat}(hi:i<n):WP (.bG sz) [.slice (some ⟨b,o,s⟩) n c,.int kd (i:Int)] h R↔R (au b (o+i*sz)) h:=dF fun k=>by
 show iff (Nat.ble (Nat.succ i) n) (fN (Nat.add o (Nat.mul i sz)) fun o'=>k (au b o') h)=_
 have:Nat.ble (Nat.succ i) n=true:=by rw [Nat.ble_eq];exact hi
 rw [this,gj,cz];rfl
theorem amA {len sz b o i:Nat}{kd:IntKind}{s:Option Nat}(hi:i<len):WP (.Bz len sz) [.pointer (some ⟨b,o,s⟩),.int kd (i:Int)] h R↔R (au b (o+i*sz)) h:=dF fun k=>by
 show iff (Nat.ble (Nat.succ i) len) (fN (Nat.add o (Nat.mul i sz)) fun o'=>k (au b o') h)=_
 have:Nat.ble (Nat.succ i) len=true:=by rw [Nat.ble_eq];exact hi
 rw [this,gj,cz];rfl
theorem amB {len i:Nat}{kd:IntKind}{l:List Value}{v:Value}(hi:i<len) (hv:l[i]? =some v):WP (.tU len) [.agg ⟨l⟩,.int kd (i:Int)] h R↔R v h:=dF fun k=>by
 show iff (Nat.ble (Nat.succ i) len) (ql l i fun v=>k v h)=_
 have:Nat.ble (Nat.succ i) len=true:=by rw [Nat.ble_eq];exact hi
 rw [this,gj,LZ hv]
theorem amC {len sz i:Nat}{kd:IntKind}{l:List Value}(hi:i<len) (hl:len*sz≤l.length):WP (.ON len sz) [.agg ⟨l⟩,.int kd (i:Int)] h R↔R (.agg ⟨(l.drop (i*sz)).take sz⟩) h:=dF fun k=>by
 show iff (Nat.ble (Nat.succ i) len) (sJ l (Nat.mul i sz) fun l=>sI l sz fun l=>k (.agg ⟨l⟩) h)=_
 have:Nat.ble (Nat.succ i) len=true:=by rw [Nat.ble_eq];exact hi
 have h1:i*sz+sz≤l.length:=by
  have:(i+1)*sz≤len*sz:=Nat.mul_le_mul_right _ hi
  rw [Nat.add_mul]at this;omega
 rw [this,gj,show Nat.mul i sz=i*sz from rfl,Ug (by omega),Uh (by simp only [List.length_drop];omega)]
theorem fF {k:IntKind}{x y:Int}:WP (.aE .add) [.int k x,.int k y] h R↔R (.int k (bD k (x+y))) h:=dF fun kk=>by
 show iff (gK k k) (fI (bD k (Int.add x y)) fun n=>kk (.int k n) h)=_
 rw [qv,gj,ph];rfl
theorem lZ {k:IntKind}{x y:Int}:WP (.aE .sub) [.int k x,.int k y] h R↔R (.int k (bD k (x-y))) h:=dF fun kk=>by
 show iff (gK k k) (fI (bD k (Int.sub x y)) fun n=>kk (.int k n) h)=_
 rw [qv,gj,ph];rfl
theorem FU {k:IntKind}{x y:Int}:WP (.aE .mul) [.int k x,.int k y] h R↔R (.int k (bD k (x*y))) h:=dF fun kk=>by
 show iff (gK k k) (fI (bD k (Int.mul x y)) fun n=>kk (.int k n) h)=_
 rw [qv,gj,ph];rfl
theorem cK {k:IntKind}{x y:Int}:WP (.aE .eql) [.int k x,.int k y] h R↔R (.bool (decide (x=y))) h:=dF fun kk=>by
 show iff (gK k k) (fB (mT x y) fun b=>kk (.bool b) h)=_
 rw [qv,gj,jV,FQ]
theorem oy {k:IntKind}{x y:Int}:WP (.aE .neq) [.int k x,.int k y] h R↔R (.bool (!decide (x=y))) h:=dF fun kk=>by
 show iff (gK k k) (fB (!mT x y) fun b=>kk (.bool b) h)=_
 rw [qv,gj,jV,FQ]
theorem eF {k:IntKind}{x y:Int}:WP (.aE .lss) [.int k x,.int k y] h R↔R (.bool (decide (x<y))) h:=dF fun kk=>by
 show iff (gK k k) (fB (oq x y) fun b=>kk (.bool b) h)=_
 rw [qv,gj,jV,LG]
theorem pz {k:IntKind}{x y:Int}:WP (.aE .leq) [.int k x,.int k y] h R↔R (.bool (decide (x≤y))) h:=dF fun kk=>by
 show iff (gK k k) (fB (!oq y x) fun b=>kk (.bool b) h)=_
 rw [qv,gj,jV,LG]
 congr 2
 rw [←decide_not]
 congr 1
 exact propext Int.not_lt
theorem nh {k:IntKind}{x y:Int}:WP (.aE .gtr) [.int k x,.int k y] h R↔R (.bool (decide (y<x))) h:=dF fun kk=>by
 show iff (gK k k) (fB (oq y x) fun b=>kk (.bool b) h)=_
 rw [qv,gj,jV,LG]
theorem pA {k:IntKind}{x y:Int}:WP (.aE .geq) [.int k x,.int k y] h R↔R (.bool (decide (y≤x))) h:=dF fun kk=>by
 show iff (gK k k) (fB (!oq x y) fun b=>kk (.bool b) h)=_
 rw [qv,gj,jV,LG]
 congr 2
 rw [←decide_not]
 congr 1
 exact propext Int.not_lt
theorem Ui {k k':IntKind}{x:Int}:WP (.conv k') [.int k x] h R↔R (.int k' (bD k' x)) h:=dF fun kk=>by
 show fI (bD k' x) (fun n=>kk (.int k' n) h)=_
 rw [ph]
theorem gN {b:Bool}:WP .ic [.bool b] h R↔R (.bool (!b)) h:=dF fun kk=>by
 show fB (!b) (fun b=>kk (.bool b) h)=_
 rw [jV]
theorem Uj {a b:Bool}:WP (.Km false) [.bool a,.bool b] h R↔R (.bool (a==b)) h:=dF fun kk=>by cases a<;>cases b<;>rfl
theorem Uk {a b:Bool}:WP (.Km true) [.bool a,.bool b] h R↔R (.bool (a != b)) h:=dF fun kk=>by cases a<;>cases b<;>rfl
theorem eY {l:List Value}{i:Nat}{v:Value}(hv:l[i]? =some v):WP (.extract i) [.tuple ⟨l⟩] h R↔R v h:=dF fun _=>LZ hv _
theorem Ul {a:Addr}{n c:Nat}:WP .dG [.slice (some a) n c] h R↔R (.int .i64 (n:Int)) h:=dF fun _=>by cases a;rfl
theorem amD {n c:Nat}:WP .dG [.slice none n c] h R↔R (.int .i64 0) h:=dF fun _=>rfl
theorem L3 {fn:Fn}{nf:Nat}{vs:List Value}(hn:nf≤vs.length):WP (.yA fn nf) vs h R↔R (.func fn ⟨vs.take nf⟩ ⟨vs.drop nf⟩) h:=dF fun kk=>by
 show sI vs nf (fun a=>sJ vs nf fun b=>kk (.func fn ⟨a⟩ ⟨b⟩) h)=_
 rw [Uh hn,Ug hn]
theorem adg:∀{ss:List Nat}{vs:List Value}(_:ss=vs.map fun v=>(cellsOf v).length) (k:List Value→Bool),yZ ss vs k=k (vs.flatMap cellsOf)
 | [],[],_,k=>rfl
 | [],v::vs,h,k=>by simp at h
 | n::ss,[],h,k=>by simp at h
 | n::ss,v::vs,h,k=>by
  simp only [List.map_cons,List.cons.injEq]at h
  show iff (jT (cellsOf v) n) (yZ ss vs fun l=>jF (cellsOf v) l k)=_
  rw [wW,decide_eq_true h.1.symm,gj,adg h.2,wR];rfl
theorem amE {ss:List Nat}{vs:List Value}(hs:ss=vs.map fun v=>(cellsOf v).length):WP (.eo ss) vs h R↔R (.agg ⟨vs.flatMap cellsOf⟩) h:=dF fun _=>adg hs _
end
end
end Go.Ve
namespace Go.Ve
open Go.RowKit
noncomputable section
abbrev W:=AH→Prop
def pr (p:Prim) (vs:List Value) (K:Value→W):W:=fun h=>WP p vs h K
def ld (p:Prim) (vs:List Value) (K:Value→W):W:=fun h=>WP p vs h fun v _=>K v h
def cl (P:Program) (w0:World) (f:FuncId) (vs:List Value) (E K:Value→W):W:=fun h=>WF P w0 f vs h fun r h=>match r with
 | .ret v=>K v h
 | .aT v=>E v h
def dy (P:Program) (w0:World) (vs:List Value) (E K:Value→W):W:=match vs with
 | .func (.func g) ⟨first⟩ ⟨cr⟩::as=>cl P w0 g (first++(as++cr)) E K
 | .func (.yield l) ⟨[]⟩ ⟨[]⟩::as=>fun h=>WR P w0 l as h fun r h=>match r with
  | .ret v=>K v h
  | .aT v=>E v h
 | _=>fun _=>False
def pn (vs:List Value) (E:Value→W):W:=match vs with
 | [.iface t x]=>E (.iface t x)
 | _=>fun _=>False
def gd (g:Value) (want:Bool) (A:(Value→W)→W) (K:Value→W):W:=match g with
 | .bool b=>bif oo b want then A K else K undef
 | _=>K undef
def br (c:Value) (A B:W):W:=match c with
 | .bool true=>A
 | .bool false=>B
 | _=>fun _=>False
def ck (p:Prim) (vs:List Value) (v:Value) (K:W):W:=fun h=>WP p vs h (fun v' _=>rf v' v=true)∧K h
def ckm (p:Prim) (vs:List Value) (v:Value) (K:W):W:=fun h=>p.fresh vs (zo ⟨.e,[],.off,h⟩ v)=true∧K h
def gk (g:Value) (want:Bool) (A:W→W) (K:W):W:=match g with
 | .bool b=>bif oo b want then A K else K
 | _=>K
def eS {α:Type}(F:(α→W)→α→W):Nat→α→W
 | 0,_=>fun _=>False
 | n+1,a=>F (eS F n) a
def LP {α:Type}(F:(α→W)→α→W) (a:α):W:=fun h=>∃n,eS F n a h
theorem adh {α:Type}{F:(α→W)→α→W}(Inv:α→AH→Prop) (μ:α→AH→Nat)
 (step:∀a h (k:α→W),Inv a h→(∀a' h',Inv a' h'→μ a' h'<μ a h→k a' h')→F k a h){a:α}{h:AH}(H:Inv a h):LP F a h:=by
 have key:∀n a h,Inv a h→μ a h<n→eS F n a h:=by
  intro n
  induction n with
  | zero=>intro a h _ hn;exact absurd hn (Nat.not_lt_zero _)
  | succ n ih=>intro a h hi hn;exact step a h _ hi fun a' h' dK hm=>ih a' h' dK (by omega)
 exact⟨_,key (μ a h+1) a h H (Nat.lt_succ_self _)⟩
theorem Um (A:(Value→W)→W) (K:Value→W):gd (.bool true) true A K=A K:=rfl
theorem Un (A:(Value→W)→W) (K:Value→W):gd (.bool false) false A K=A K:=rfl
theorem Uo (A:(Value→W)→W) (K:Value→W):gd (.bool true) false A K=K undef:=rfl
theorem Up (A:(Value→W)→W) (K:Value→W):gd (.bool false) true A K=K undef:=rfl
theorem Uq (w:Bool) (A:(Value→W)→W) (K:Value→W):gd undef w A K=K undef:=rfl
theorem Ur (A:W→W) (K:W):gk (.bool true) true A K=A K:=rfl
theorem Us (A:W→W) (K:W):gk (.bool false) false A K=A K:=rfl
theorem Ut (A:W→W) (K:W):gk (.bool true) false A K=K:=rfl
theorem Uu (A:W→W) (K:W):gk (.bool false) true A K=K:=rfl
theorem Uv (w:Bool) (A:W→W) (K:W):gk undef w A K=K:=rfl
theorem Uw (A B:W):br (.bool true) A B=A:=rfl
theorem Ux (A B:W):br (.bool false) A B=B:=rfl
def oz (σ:Sl):List (Pos×Value)→Prop
 | []=>True
 | (p,v)::U=>σ p=v∧oz σ U
def Sl.rl (σ:Sl):List (Pos×Value)→Sl
 | []=>σ
 | (p,v)::U=>Sl.up (Sl.rl σ U) p v
theorem uW {σ:Sl}:∀{U:List (Pos×Value)},oz σ U→σ.rl U=σ
 | [],_=>rfl
 | (p,v)::U,⟨h1,h2⟩=>by
  show Sl.up (σ.rl U) p v=σ
  rw [uW h2]
  funext q
  unfold Sl.up
  cases h:p.beq q with
  | true=>rw [←Pos.beq_iff.1 h];exact h1.symm
  | false=>rfl
section
variable {P:Program}{w0:World}{e:Env}{σ:Sl}{d:DS}{h:AH}{Q:PQ}{l:List bS}{dl:List kC}{a b c:dV}
theorem yH (H:Q .normal σ d h):eO P w0 .skip e σ d h Q:=H
theorem fu (H:wpOps P w0 l e σ d h Q):eO P w0 (.ops l) e σ d h Q:=H
theorem ail (H:lG P w0 dl e σ d h Q):eO P w0 (.draw dl) e σ d h Q:=H
theorem iv (H:eO P w0 a e σ d h (wQ (fun σ d h=>eO P w0 b e σ d h Q) Q)):eO P w0 (.seq a b) e σ d h Q:=H
theorem fw (H:Q .normal σ d h):wpOps P w0 [] e σ d h Q:=H
theorem ain (H:Q .normal σ d h):lG P w0 [] e σ d h Q:=H
theorem iw {K:Sl→DS→AH→Prop}(H:K σ d h):wQ K Q .normal σ d h:=H
theorem si {id:Nat}(H:eO P w0 c e σ d h (T5 id Q)):eO P w0 (.block id c) e σ d h Q:=H
theorem vV {id:Nat}(H:Q .normal σ d h):T5 id Q .normal σ d h:=H
theorem vW {o:eL}{v:Value}{A B:W}(hv:fe σ o=v) (H:br v A B h) (ha:A h→eO P w0 a e σ d h Q) (hb:B h→eO P w0 b e σ d h Q):eO P w0 (.cond o a b) e σ d h Q:=by
 simp only [eO]
 rw [hv]
 unfold br at H
 revert H
 cases v<;>intro H<;>first | exact H.elim | skip
 rename_i t
 revert H
 cases t with
 | true=>exact ha
 | false=>exact hb
theorem FV {dst:Option Pos}{p:Prim}{vs:List Value}{K:Value→W}{K':Sl→DS→AH→Prop}(H:pr p vs K h) (hK:∀v h,K v h→K' (σ.gi dst v) d h):kK P w0 (.aU p) dst e σ d h vs Q K':=WP.mono hK H
theorem L4 {dst:Option Pos}{f:FuncId}{vs:List Value}{E K:Value→W}{K':Sl→DS→AH→Prop}(H:cl P w0 f vs E K h) (hE:∀v h,E v h→Q (.aT v) σ d h) (hK:∀v h,K v h→K' (σ.gi dst v) d h):kK P w0 (.call f) dst e σ d h vs Q K' :=
 WF.mono (fun r h hr=>by cases r with | ret v=>exact hK _ _ hr | aT v=>exact hE _ _ hr) H
theorem amF {dst:Option Pos}{vs:List Value}{E K:Value→W}{K':Sl→DS→AH→Prop}(H:dy P w0 vs E K h) (hE:∀v h,E v h→Q (.aT v) σ d h) (hK:∀v h,K v h→K' (σ.gi dst v) d h):kK P w0 .dyn dst e σ d h vs Q K':=by
 unfold dy at H
 simp only [kK]
 split at H
 · exact WF.mono (fun r h hr=>by cases r with | ret v=>exact hK _ _ hr | aT v=>exact hE _ _ hr) H
 · exact WR.mono (fun r h hr=>by cases r with | ret v=>exact hK _ _ hr | aT v=>exact hE _ _ hr) H
 · exact H.elim
theorem amG {dst:Option Pos}{vs:List Value}{E:Value→W}{K':Sl→DS→AH→Prop}(H:pn vs E h) (hE:∀v h,E v h→Q (.aT v) σ d h):kK P w0 .panic dst e σ d h vs Q K':=by
 unfold pn at H
 simp only [kK]
 split at H
 · exact hE _ _ H
 · exact H.elim
theorem L5 {dst:Option Pos}{act:kB}{args:List eL}{g:Pos}{gv:Value}{want:Bool}{A:(Value→W)→W}{K:Value→W}{K':Sl→DS→AH→Prop}(hg:σ g=gv) (H:gd gv want A K h) (hA:A K h→kK P w0 act dst e σ d h (args.map (fe σ)) Q K') (hK:∀v h,K v h→K' (σ.gi dst v) d h) :
 wpOp P w0 ⟨dst,act,args,some (g,want)⟩ e σ d h Q K':=by
 unfold wpOp
 simp only []
 rw [hg]
 unfold gd at H
 revert H
 cases gv<;>intro H<;>first | exact hK _ _ H | skip
 rename_i b
 simp only at H ⊢
 revert H
 cases oo b want with
 | true=>exact hA
 | false=>exact hK _ _
theorem amH {p:Prim}{args:List eL}{q g:Pos}{gv:Value}{want:Bool}{A:W→W}{K:W}(hg:σ g=gv) (H:gk gv want A K h) (hA:A K h→wP (.aU p) (some q) (args.map (fe σ)) σ h∧K h):zB ⟨some q,.aU p,args,some (g,want)⟩ σ h∧K h:=by
 unfold zB
 simp only []
 rw [hg]
 unfold gk at H
 revert H
 cases gv<;>intro H<;>first | exact⟨trivial,H⟩ | skip
 rename_i b
 simp only at H ⊢
 revert H
 cases oo b want with
 | true=>exact hA
 | false=>exact fun H=>⟨trivial,H⟩
theorem jS {dst:Option Pos}{x:eL}{v:Value}(hv:fe σ x=v) (H:wpOps P w0 l e (σ.gi dst v) d h Q):wpOps P w0 (⟨dst,.aU .move,[x],none⟩::l) e σ d h Q:=by
 subst hv;exact fun k hk=>hk _ _ H
theorem cj {dst:Option Pos}{p:Prim}{args:List eL}{vs:List Value}{K:Value→W}(hv:args.map (fe σ)=vs) (H:pr p vs K h) (hK:∀v h,K v h→wpOps P w0 l e (σ.gi dst v) d h Q):wpOps P w0 (⟨dst,.aU p,args,none⟩::l) e σ d h Q:=by
 subst hv;exact FV (P:=P) (w0:=w0) (e:=e) (dst:=dst) (Q:=Q) (K':=fun σ d h=>wpOps P w0 l e σ d h Q) H hK
theorem D9 {dst:Option Pos}{f:FuncId}{args:List eL}{vs:List Value}{E K:Value→W}(hv:args.map (fe σ)=vs) (H:cl P w0 f vs E K h) (hE:∀v h,E v h→Q (.aT v) σ d h) (hK:∀v h,K v h→wpOps P w0 l e (σ.gi dst v) d h Q):wpOps P w0 (⟨dst,.call f,args,none⟩::l) e σ d h Q:=by
 subst hv;exact L4 (e:=e) (dst:=dst) (K':=fun σ d h=>wpOps P w0 l e σ d h Q) H hE hK
theorem Ea {dst:Option Pos}{x:eL}{v:Value}{g:Pos}{gv:Value}{want:Bool}{K:Value→W}(hg:σ g=gv) (hv:fe σ x=v) (H:gd gv want (fun k=>k v) K h) (hK:∀v h,K v h→wpOps P w0 l e (σ.gi dst v) d h Q):wpOps P w0 (⟨dst,.aU .move,[x],some (g,want)⟩::l) e σ d h Q:=by
 subst hv;exact L5 (K':=fun σ d h=>wpOps P w0 l e σ d h Q) hg H (fun H k hk=>hk _ _ (hK _ _ H)) hK
theorem nE {dst:Option Pos}{p:Prim}{args:List eL}{vs:List Value}{g:Pos}{gv:Value}{want:Bool}{K:Value→W}(hg:σ g=gv) (hv:args.map (fe σ)=vs) (H:gd gv want (fun k=>pr p vs k) K h) (hK:∀v h,K v h→wpOps P w0 l e (σ.gi dst v) d h Q):wpOps P w0 (⟨dst,.aU p,args,some (g,want)⟩::l) e σ d h Q:=by
 subst hv;exact L5 (K':=fun σ d h=>wpOps P w0 l e σ d h Q) hg H (fun H=>WP.mono hK H) hK
theorem aiF {dst:Option Pos}{f:FuncId}{args:List eL}{vs:List Value}{g:Pos}{gv:Value}{want:Bool}{E K:Value→W}(hg:σ g=gv) (hv:args.map (fe σ)=vs) (H:gd gv want (fun k=>cl P w0 f vs E k) K h) (hE:∀v h,E v h→Q (.aT v) σ d h) (hK:∀v h,K v h→wpOps P w0 l e (σ.gi dst v) d h Q):wpOps P w0 (⟨dst,.call f,args,some (g,want)⟩::l) e σ d h Q:=by
 subst hv;exact L5 (K':=fun σ d h=>wpOps P w0 l e σ d h Q) hg H (fun H=>L4 H hE hK) hK
theorem Zj {i:Nat}{dst:Option Pos}{x:eL}{v:Value}(hv:fe σ x=v) (H:lG P w0 dl e (σ.gi dst v) d h Q):lG P w0 (.op i ⟨dst,.aU .move,[x],none⟩::dl) e σ d h Q:=by
 subst hv;exact fun k hk=>hk _ _ H
theorem sj {i:Nat}{dst:Option Pos}{p:Prim}{args:List eL}{vs:List Value}{K:Value→W}(hv:args.map (fe σ)=vs) (H:pr p vs K h) (hK:∀v h,K v h→lG P w0 dl e (σ.gi dst v) d h Q):lG P w0 (.op i ⟨dst,.aU p,args,none⟩::dl) e σ d h Q:=by
 subst hv;exact FV (P:=P) (w0:=w0) (e:=e) (dst:=dst) (Q:=Q) (K':=fun σ d h=>lG P w0 dl e σ d h Q) H hK
theorem aim {i:Nat}{dst:Option Pos}{f:FuncId}{args:List eL}{vs:List Value}{E K:Value→W}(hv:args.map (fe σ)=vs) (H:cl P w0 f vs E K h) (hE:∀v h,E v h→Q (.aT v) σ d h) (hK:∀v h,K v h→lG P w0 dl e (σ.gi dst v) d h Q):lG P w0 (.op i ⟨dst,.call f,args,none⟩::dl) e σ d h Q:=by
 subst hv;exact L4 (e:=e) (dst:=dst) (K':=fun σ d h=>lG P w0 dl e σ d h Q) H hE hK
theorem Jm {i:Nat}{p:Prim}{args:List eL}{vs:List Value}{q:Pos}{v:Value}{K:W}(hm:p.makes=false) (hq:σ q=v) (hv:args.map (fe σ)=vs) (H:ck p vs v K h) (hK:K h→lG P w0 dl e σ d h Q):lG P w0 (.kR i ⟨some q,.aU p,args,none⟩::dl) e σ d h Q:=by
 subst hv;subst hq
 exact⟨by unfold zB wP;simp only [hm];exact H.1,hK H.2⟩
theorem O9 {α:Type}(U:List (Pos×Value)) (M:α→List (Pos×Value)) (π:Sl→α) (J:α→W) (hM:∀σ,oz σ (M (π σ))) (hb:∀(x:α) (σ:Sl) (h:AH),J x h→eO P w0 b e ((σ.rl U).rl (M x)) d h Q)
 (ha:eO P w0 a e σ d h (wQ (fun σ d' h=>d'=d∧oz σ U∧J (π σ) h) Q)):eO P w0 (.seq a b) e σ d h Q:=by
 refine LD a (fun x σ d' h hx=> ?_) ha
 cases x with
 | normal =>
  obtain⟨rfl,h2,h3⟩:=hx
  have:=hb (π σ) σ h h3
  rwa [uW h2,uW (hM σ)]at this
 | _=>exact hx
theorem aiE (bT:P.follows .mixedOrders=true){α:Type}(U:List (Pos×Value)) (M:α→List (Pos×Value)) (π:Sl→α) (F:(α→W)→α→W) (hM:∀σ,oz σ (M (π σ)))
 (hF:∀(k:α→W) (x:α) (σ:Sl) (h:AH),F k x h→eO P w0 c e ((σ.rl U).rl (M x)) d h (wQ (fun σ d' h=>d'=d∧oz σ U∧k (π σ) h) Q)){x:α}(hx:π σ=x) (hU:oz σ U) (H:LP F x h):eO P w0 (.loop c) e σ d h Q:=by
 subst hx
 obtain⟨n,H⟩:=H
 revert H hU
 have key:∀n σ h,oz σ U→eS F n (π σ) h→WC P w0 (.loop c) e σ d h Q:=by
  intro n
  induction n with
  | zero=>intro σ h _ H;exact H.elim
  | succ n ih =>
   intro σ h hU H
   refine T6 bT ?_
   have h1:=hF (eS F n) (π σ) σ h H
   rw [uW hU,uW (hM σ)]at h1
   refine LD c (fun x σ d' h hx=> ?_) h1
   cases x with
   | normal =>
    obtain⟨rfl,h2,h3⟩:=hx
    exact ih σ h h2 h3
   | _=>exact hx
 exact key n σ h
end
end
end Go.Ve
