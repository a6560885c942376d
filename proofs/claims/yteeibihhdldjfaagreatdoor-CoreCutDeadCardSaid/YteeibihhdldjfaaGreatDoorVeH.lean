/- Part 8: operations that came later: strings joined, compared, cut; the capacity of a slice. No condition. -/
import Derived.Test.YteeibihhdldjfaaGreatDoorVeG
import Derived.Laws.Concat
import Derived.Lib.Strings
set_option linter.unusedVariables false
set_option linter.unusedSimpArgs false
namespace Go.Ve
open Go.RowKit
section
variable {P:Program}{w0 w:World}{φ:aY}{h:AH}{ρ:Operand→Value}{o:Oper}{vs:List Value}{k:KV}
theorem alx:∀(l m:List UInt8) (k:List UInt8→Bool),AB l m k=k (l++m)
 | [],m,k=>rfl
 | x::l,m,k=>by show AB l m (fun l'=>k (x::l'))=_;rw [alx l m];rfl
theorem aly:∀(l:List UInt8) (n:Nat) (k:List UInt8→Bool),Tp l n k=k (l.take n)
 | [],n,k=>by simp [Tp]
 | x::l,0,k=>rfl
 | x::l,n+1,k=>by show Tp l n (fun l'=>k (x::l'))=_;rw [aly l n];rfl
theorem alz:∀(l:List UInt8) (n:Nat) (k:List UInt8→Bool),Tq l n k=k (l.drop n)
 | [],n,k=>by simp [Tq]
 | x::l,0,k=>rfl
 | x::l,n+1,k=>by show Tq l n k=_;rw [alz l n];rfl
theorem alA:∀(l m:List UInt8),Ff l m=Op.bytesLess l m
 | [],[]=>rfl
 | _::_,[]=>rfl
 | [],_::_=>rfl
 | a::l,b::m=>by
  simp only [Ff,Op.bytesLess,alA l m];rw [B6]
  by_cases h1:a<b
  · have h2:a.toNat+1≤b.toNat:=UInt8.lt_iff_toNat_lt.1 h1;have:decide (a.toNat.succ≤b.toNat)=true:=zac h2;rw [this];simp [h1]
  · have h2:¬(a.toNat+1≤b.toNat):=fun h=>h1 (UInt8.lt_iff_toNat_lt.2 h)
    have:decide (a.toNat.succ≤b.toNat)=false:=zag h2;rw [this]
    by_cases e:a=b
    · subst e;simp [h1]
    · rw [jt (fun h=>e (UInt8.toNat_inj.1 h))];simp [h1,e]
theorem avo {t u x y}(ho:o.op= .binOp .add t x y u)(H:HR P w0 φ h w)(hv:LR φ vs ([x,y].map ρ))(e:akq vs h k=true):PR P w0 φ h ((execOp ρ o).run P w) fun v h'=>k v h'=true:=by
 obtain⟨p,q,aM,e1⟩:=lx e;clear e;subst aM;have e:=e1;clear e1;obtain⟨p',q',hp,hr,hq⟩:=hv.two;simp at hp;obtain⟨e1,e2⟩:=hp;subst e1 e2;obtain⟨a,aM,e1⟩:=ql e;clear e;subst aM;have e:=e1;clear e1;obtain⟨b,aM,e1⟩:=ql e;clear e;subst aM;have e:=e1;clear e1
 have hg:(eqGuard .add t x y (.string a) (.string b)).run P w= .ok () w:=by
  unfold eqGuard;split<;>simp
 have hx:=hr.od;have hy:=hq.od;obtain⟨hn,e1⟩:=dX e;have hn:=zaa hn;rw [alx]at e1;have hs:a.size+b.size≤9223372036854775807:=hn
 have uP:a++b=⟨⟨a.data.toList++b.data.toList⟩⟩:=by
  apply ByteArray.ext;rw [ByteArray.data_append];apply za8;simp
 refine .same H (v':=.string (a++b)) ?_ (by rw [uP];exact .str _) e1;simp only [execOp,ho,hx,hy];have dT:=run_string_add_sum (P:=P) w a b hs;simp [hg,binOp,dT]
theorem avp {op t u x y}(ho:o.op= .binOp op t x y u)(H:HR P w0 φ h w)(hv:LR φ vs ([x,y].map ρ))(e:akr op vs h k=true):PR P w0 φ h ((execOp ρ o).run P w) fun v h'=>k v h'=true:=by
 obtain⟨p,q,aM,e1⟩:=lx e;clear e;subst aM;have e:=e1;clear e1;obtain⟨p',q',hp,hr,hq⟩:=hv.two;simp at hp;obtain⟨e1,e2⟩:=hp;subst e1 e2;obtain⟨a,aM,e1⟩:=ql e;clear e;subst aM;have e:=e1;clear e1;obtain⟨b,aM,e1⟩:=ql e;clear e;subst aM;have e:=e1;clear e1
 have hg:(eqGuard op t x y (.string a) (.string b)).run P w= .ok () w:=by
  unfold eqGuard;split<;>simp
 have hx:=hr.od;have hy:=hq.od;cases op<;>simp only [akp,yB,zak]at e<;>first | (cases e;done) | skip
 all_goals
  rw [lA]at e;simp only [eqStr,alA]at e;rw [←ByteArray.toList_eq,←ByteArray.toList_eq]at e;exact .same H (by simp only [execOp,ho,hx,hy];simp [hg,binOp,Op.stringOp]) (.bool _) e
theorem avl {t x lo hi}(ho:o.op= .slice t x lo hi none)(hu:P.underlying t=some .string)
 (H:HR P w0 φ h w) (hv:LR φ vs ((x::(lo.toList++hi.toList)).map ρ)) (e:acr lo.isSome hi.isSome vs h k=true):PR P w0 φ h ((execOp ρ o).run P w) fun v h'=>k v h'=true:=by
 cases vs with
 | nil=>cases e
 | cons v vs=>
  simp only [zaW]at hv;cases hv with | cons _ v' _ l' hr hv=>
  unfold acr at e;dsimp only at e;obtain⟨s,aM,e1⟩:=ql e;clear e;subst aM;have hx:=hr.od;obtain⟨l,SA,e2,Am,hl⟩:=yJ e1 hv;obtain⟨hh,vs2,e3,uR,Ft⟩:=yJ (x:=hi) (rest:=[]) e2 (by simpa using Am);obtain⟨c1,e4⟩:=dX e3;simp only [zae]at c1;obtain⟨⟨_,c1⟩,c2⟩:=c1;have c1:=zaa c1;have c2:=zaa c2;rw [alz,aly]at e4;have hb:=TN (P:=P) (w:=w) (isS:=false) (len:=s.size) (cap:=s.size) (m:=s.size) (mx:=none) (fun h=>by cases h) hl Ft (.inl ⟨rfl,rfl⟩) c1 c2 (zad _);simp only [Option.map_none]at hb
  have hex:s.extract l hh=⟨⟨(s.data.toList.drop l).take (Nat.sub hh l)⟩⟩:=by
   apply ByteArray.ext;apply za8;exact Go.Lib.extract_data s l hh
  refine .same H (v':=.string (s.extract l hh)) ?_ (by rw [hex];exact .str _) e4;simp only [execOp,ho,hx];simp only [Instr.sliceAt,Instr.slice,Sem.run_bind,run_underlying hu,Result.andThen_ok,Option.map_none];simp [hb]
theorem avM {c x t e'}(ho:o.op= .call c)(hc:c.callee= .builtin .cap)(ha:c.args= #[x])(ht:c.argTypes[0]? =some t)(hu:P.underlying t=some (.slice e'))(H:HR P w0 φ h w)(hv:LR φ vs ([x].map ρ))(e:aks vs h k=true):PR P w0 φ h ((execOp ρ o).run P w) fun v h'=>k v h'=true:=by
 obtain⟨p,aM,e1⟩:=iU e;clear e;subst aM;have e:=e1;clear e1;obtain⟨p',hp,hr⟩:=hv.one;simp at hp;subst hp;rcases wZ e with⟨l,c',aM,e1⟩ | ⟨a,l,c',aM,e1⟩<;>(clear e;subst aM)
 · obtain⟨rfl,rfl,hx⟩:=hr.yj;refine .same H ?_ (.int _ _) e1;rw [qj ho hc];simp [builtin,Builtin.cap_,ha,ht,hx,run_underlying hu,goInt]
 · obtain⟨a',c'',hx,_,lO⟩:=hr.vD;obtain⟨cy,e2⟩:=dX e1;have cy:c'<bQ:=zaa cy
   obtain rfl:c''=c':=by
    rcases lO with⟨_,h2,_⟩ | ⟨sz,h1,_⟩
    · exact h2
    · omega
   refine .same H ?_ (.int _ _) e2;rw [qj ho hc];simp [builtin,Builtin.cap_,ha,ht,hx,run_underlying hu,goInt]
end
end Go.Ve
