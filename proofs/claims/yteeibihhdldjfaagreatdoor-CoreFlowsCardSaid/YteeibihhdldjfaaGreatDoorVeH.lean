/- Part 8: VEval, part 32: operations that came later: strings joined, compared, cut; the capacity of a slice. No condition. -/
import Derived.Test.YteeibihhdldjfaaGreatDoorVeG
import Derived.Laws.Concat
import Derived.Lib.Strings
set_option linter.unusedVariables false
set_option linter.unusedSimpArgs false
namespace Go.Ve
open Go.RowKit
section
variable {P:Program}{w0 w:World}{φ:aO}{h:AH}{ρ:Operand→Value}{o:Oper}{vs:List Value}{k:KV}
theorem acD:∀(l m:List UInt8) (k:List UInt8→Bool),uK l m k=k (l++m)
 | [],m,k=>rfl
 | x::l,m,k=>by show uK l m (fun l'=>k (x::l'))=_;rw [acD l m];rfl
theorem acE:∀(l:List UInt8) (n:Nat) (k:List UInt8→Bool),K5 l n k=k (l.take n)
 | [],n,k=>by simp [K5]
 | x::l,0,k=>rfl
 | x::l,n+1,k=>by show K5 l n (fun l'=>k (x::l'))=_;rw [acE l n];rfl
theorem acF:∀(l:List UInt8) (n:Nat) (k:List UInt8→Bool),K6 l n k=k (l.drop n)
 | [],n,k=>by simp [K6]
 | x::l,0,k=>rfl
 | x::l,n+1,k=>by show K6 l n k=_;rw [acF l n];rfl
theorem acG:∀(l m:List UInt8),zm l m=Op.bytesLess l m
 | [],[]=>rfl
 | _::_,[]=>rfl
 | [],_::_=>rfl
 | a::l,b::m=>by
  simp only [zm,Op.bytesLess,acG l m]
  rw [wg]
  by_cases h1:a<b
  · have h2:a.toNat+1≤b.toNat:=UInt8.lt_iff_toNat_lt.1 h1
    have:decide (a.toNat.succ≤b.toNat)=true:=decide_eq_true h2
    rw [this];simp [h1]
  · have h2:¬(a.toNat+1≤b.toNat):=fun h=>h1 (UInt8.lt_iff_toNat_lt.2 h)
    have:decide (a.toNat.succ≤b.toNat)=false:=decide_eq_false h2
    rw [this]
    by_cases e:a=b
    · subst e;simp [h1]
    · rw [gg (fun h=>e (UInt8.toNat_inj.1 h))];simp [h1,e]
theorem aj5 {t u:TypeId}{x y:Operand}(ho:o.op= .binOp .add t x y u) (H:HR P w0 φ h w) (hv:LR φ vs ([x,y].map ρ)) (e:abv vs h k=true):PR P w0 φ h ((execOp ρ o).run P w) fun v h'=>k v h'=true:=by
 obtain⟨p,q,ar,e1⟩:=ji e;clear e;subst ar;have e:=e1;clear e1
 obtain⟨p',q',hp,hr,hq⟩:=hv.two
 simp at hp;obtain⟨e1,e2⟩:=hp;subst e1 e2
 obtain⟨a,ar,e1⟩:=mf e;clear e;subst ar;have e:=e1;clear e1
 obtain⟨b,ar,e1⟩:=mf e;clear e;subst ar;have e:=e1;clear e1
 have hg:(eqGuard .add t x y (.string a) (.string b)).run P w= .ok () w:=by
  unfold eqGuard
  split<;>simp
 have hx:=hr.kV
 have hy:=hq.kV
 obtain⟨hn,e1⟩:=cI e
 have hn:=Nat.le_of_ble_eq_true hn
 rw [acD]at e1
 have hs:a.size+b.size≤9223372036854775807:=hn
 have o6:a++b=⟨⟨a.data.toList++b.data.toList⟩⟩:=by
  apply ByteArray.ext
  rw [ByteArray.data_append]
  apply Array.ext'
  simp
 refine .same H (v':=.string (a++b)) ?_ (by rw [o6];exact .str _) e1
 simp only [execOp,ho,hx,hy]
 have cD:=run_string_add_sum (P:=P) w a b hs
 simp [hg,binOp,cD]
theorem aj6 {op:BinOp}{t u:TypeId}{x y:Operand}(ho:o.op= .binOp op t x y u) (H:HR P w0 φ h w) (hv:LR φ vs ([x,y].map ρ)) (e:abw op vs h k=true):PR P w0 φ h ((execOp ρ o).run P w) fun v h'=>k v h'=true:=by
 obtain⟨p,q,ar,e1⟩:=ji e;clear e;subst ar;have e:=e1;clear e1
 obtain⟨p',q',hp,hr,hq⟩:=hv.two
 simp at hp;obtain⟨e1,e2⟩:=hp;subst e1 e2
 obtain⟨a,ar,e1⟩:=mf e;clear e;subst ar;have e:=e1;clear e1
 obtain⟨b,ar,e1⟩:=mf e;clear e;subst ar;have e:=e1;clear e1
 have hg:(eqGuard op t x y (.string a) (.string b)).run P w= .ok () w:=by
  unfold eqGuard
  split<;>simp
 have hx:=hr.kV
 have hy:=hq.kV
 cases op<;>simp only [abu,uI,cond_false]at e<;>first | (cases e;done) | skip
 all_goals
  rw [jV]at e
  simp only [eqStr,acG]at e
  rw [←ByteArray.toList_eq,←ByteArray.toList_eq]at e
  exact .same H (by simp only [execOp,ho,hx,hy];simp [hg,binOp,Op.stringOp]) (.bool _) e
theorem aj2 {t:TypeId}{x:Operand}{lo hi:Option Operand}(ho:o.op= .slice t x lo hi none) (hu:P.underlying t=some .string)
 (H:HR P w0 φ h w) (hv:LR φ vs ((x::(lo.toList++hi.toList)).map ρ)) (e:Tp lo.isSome hi.isSome vs h k=true):PR P w0 φ h ((execOp ρ o).run P w) fun v h'=>k v h'=true:=by
 cases vs with
 | nil=>cases e
 | cons v vs =>
  simp only [List.map_cons]at hv
  cases hv with | cons _ v' _ l' hr hv =>
  unfold Tp at e
  dsimp only at e
  obtain⟨s,ar,e1⟩:=mf e;clear e;subst ar
  have hx:=hr.kV
  obtain⟨l,TQ,e2,uv,hl⟩:=sQ e1 hv
  obtain⟨hh,TS,e3,o9,zv⟩:=sQ (x:=hi) (rest:=[]) e2 (by simpa using uv)
  obtain⟨c1,e4⟩:=cI e3
  simp only [Bool.and_eq_true]at c1
  obtain⟨⟨_,c1⟩,c2⟩:=c1
  have c1:=Nat.le_of_ble_eq_true c1
  have c2:=Nat.le_of_ble_eq_true c2
  rw [acF,acE]at e4
  have hb:=Ls (P:=P) (w:=w) (isS:=false) (len:=s.size) (cap:=s.size) (m:=s.size) (mx:=none) (fun h=>by cases h) hl zv (.inl ⟨rfl,rfl⟩) c1 c2 (Nat.le_refl _)
  simp only [Option.map_none]at hb
  have hex:s.extract l hh=⟨⟨(s.data.toList.drop l).take (Nat.sub hh l)⟩⟩:=by
   apply ByteArray.ext
   apply Array.ext'
   exact Go.Lib.extract_data s l hh
  refine .same H (v':=.string (s.extract l hh)) ?_ (by rw [hex];exact .str _) e4
  simp only [execOp,ho,hx]
  simp only [Instr.sliceAt,Instr.slice,Sem.run_bind,run_underlying hu,Result.andThen_ok,Option.map_none]
  simp [hb]
theorem akt {c:Call}{x:Operand}{t e':TypeId}(ho:o.op= .call c) (hc:c.callee= .builtin .cap) (ha:c.args= #[x]) (ht:c.argTypes[0]? =some t) (hu:P.underlying t=some (.slice e')) (H:HR P w0 φ h w) (hv:LR φ vs ([x].map ρ)) (e:abx vs h k=true):PR P w0 φ h ((execOp ρ o).run P w) fun v h'=>k v h'=true:=by
 obtain⟨p,ar,e1⟩:=fy e;clear e;subst ar;have e:=e1;clear e1
 obtain⟨p',hp,hr⟩:=hv.one
 simp at hp;subst hp
 rcases qU e with⟨l,c',ar,e1⟩ | ⟨a,l,c',ar,e1⟩<;>(clear e;subst ar)
 · obtain⟨rfl,rfl,hx⟩:=hr.sw
   refine .same H ?_ (.int _ _) e1
   rw [me ho hc]
   simp [builtin,Builtin.cap_,ha,ht,hx,run_underlying hu,goInt]
 · obtain⟨a',c'',hx,_,jE⟩:=hr.pW
   obtain⟨bJ,e2⟩:=cI e1
   have bJ:c'<bg:=Nat.le_of_ble_eq_true bJ
   obtain rfl:c''=c':=by
    rcases jE with⟨_,h2,_⟩ | ⟨sz,h1,_⟩
    · exact h2
    · omega
   refine .same H ?_ (.int _ _) e2
   rw [me ho hc]
   simp [builtin,Builtin.cap_,ha,ht,hx,run_underlying hu,goInt]
end
end Go.Ve
