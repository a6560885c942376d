/- Part 9: more operations: entries of the library, pointers as unsafe.Pointer, a string's bytes appended, a range over a map. No condition. -/
import Derived.Test.YteeibihhdldjfaaGreatDoorVeH
import Derived.Lib.Builder
import Derived.Lib.Bytealg
import Derived.Maps.RangeRun
import Derived.KernelRfl
set_option linter.unusedVariables false
set_option linter.unusedSimpArgs false
namespace Go.Ve
open Go.RowKit
section
variable {P:Program}{w0 w:World}{φ:aY}{h:AH}{ρ:Operand→Value}{o:Oper}{vs:List Value}{k:KV}
theorem alB {h b k}(e:Co h b k=true):∃m s l n,h.ob.get b=some (.jD m s l n)∧k m s l n=true:=by
 obtain⟨o,h1,h2⟩:=Fu e;cases o<;>first | exact⟨_,_,_,_,h1,h2⟩ | cases h2
theorem avB {c g fn e}(ho : o.op = .call c)(hc : c.callee = .value (.func g))(hρ : ρ (.func g) = .func (.func g) #[] #[])(hf : P.funcs[g]? = some fn)(hn : (fn.name == "runtime.NumGoroutine") = false)
 (hb:fn.body.isNone=true) (h1:Extern.findNext fn=none) (h2:Extern.find fn=some e){v:Z}(hr:(e (c.args.map ρ)).run P w= .ok v w):(execOp ρ o).run P w= .ok (.value v) w:=by
 have dN:fn.body=none:=by simpa using hb
 have hn' : fn.name ≠ "runtime.NumGoroutine" := by simpa using hn
 simp [execOp,ho,resolve,hc,hρ,Deferred.ofValue,invoke,callFunc,program,Sem.run_bind,Sem.run,Result.andThen,hf,hn',dN,mark,h1,h2,hr]
theorem acM {fn n e}(hn:fn.name=n)(h1:Extern.allGenericRows.lookup n=none)(h2:Extern.allTypedRows.lookup n=none)(h3:Extern.allRows.lookup n=some e):Extern.find fn=some e:=by
 unfold Extern.find;simp only [hn,h1,h2,h3];rfl
set_option maxRecDepth 20000 in
theorem avD {fn}(h : fn.name = "internal/abi.NoEscape") : Extern.find fn = some Extern.AbiNoEscape.same := acM h (by kernel_rfl) (by kernel_rfl) (by kernel_rfl)
set_option maxRecDepth 20000 in
theorem avF {fn}(h : fn.name = "internal/bytealg.CountString") : Extern.find fn = some Extern.BytealgCount.count := acM h (by kernel_rfl) (by kernel_rfl) (by kernel_rfl)
set_option maxRecDepth 20000 in
theorem avH {fn}(h : fn.name = "internal/bytealg.IndexByteString") : Extern.find fn = some Extern.BytealgIndexByte.indexByte := acM h (by kernel_rfl) (by kernel_rfl) (by kernel_rfl)
theorem avC {e:Array Z→Sem Z}{c:Call}(hx:∀v,(e (c.args.map ρ)).run P w= .ok v w→(execOp ρ o).run P w= .ok (.value v) w)(he:e=Extern.AbiNoEscape.same)(H:HR P w0 φ h w)(hv:LR φ vs (c.args.toList.map ρ))(q:akx vs h k=true):PR P w0 φ h ((execOp ρ o).run P w) fun v h'=>k v h'=true:=by
 obtain⟨p,aM,e1⟩:=iU q;subst aM;obtain⟨p',hp,hr⟩:=hv.one;refine .same H (hx p' ?_) hr e1;have:c.args.map ρ= #[p']:=by apply za8;simpa using hp
 rw [this,he];rfl
theorem count_eq (c:Nat)(hc:c<256):∀(l:List UInt8),LM l c=Lib.countByte l (c.toUInt8)
 | []=>rfl
 | b::l=>by
  have ih:=count_eq c hc l;have h1:LM (b::l) c=bif Nat.beq b.toNat c then Nat.succ (LM l c)else LM l c:=rfl
  have h2:(b==c.toUInt8)=Nat.beq b.toNat c:=by
   have h3:c.toUInt8.toNat=c:=by simp [Nat.toUInt8,UInt8.toNat_ofNat'];omega
   by_cases hb:b.toNat=c
   · rw [qh hb];have:b=c.toUInt8:=UInt8.toNat_inj.1 (by rw [h3];exact hb);simp [this]
   · rw [jt hb];have:b≠c.toUInt8:=fun e=>hb (by rw [e,h3])
     simpa using this
  rw [h1,ih];unfold Lib.countByte;rw [List.count_cons,h2];cases Nat.beq b.toNat c<;>simp
theorem alC (c:Nat)(hc:c<256):∀(l:List UInt8) (i:Nat){k:Int→Bool},Tt c l i k=true→k (if Lib.indexByte l c.toUInt8= -1 then-1 else Lib.indexByte l c.toUInt8+i)=true
 | [],i,k,h=>by
  have h1:k (.negSucc 0)=true:=h;simpa [Lib.indexByte]using h1
 | b::l,i,k,h=>by
  have h3:c.toUInt8.toNat=c:=by simp [Nat.toUInt8,UInt8.toNat_ofNat'];omega
  have h1:(bif Nat.beq b.toNat c then k (.ofNat i)else fN (Nat.succ i) fun i=>Tt c l i k)=true:=h
  by_cases hb:b.toNat=c
  · rw [qh hb,zam]at h1;have:b=c.toUInt8:=UInt8.toNat_inj.1 (by rw [h3];exact hb);have h4:Lib.indexByte (b::l) c.toUInt8=0:=by unfold Lib.indexByte;simp [this]
    rw [h4];simpa using h1
  · rw [jt hb,zak,dG]at h1;have eM:b≠c.toUInt8:=fun e=>hb (by rw [e,h3])
    have ih:=alC c hc l (i+1) h1;have hge:=Lib.indexByte_ge l c.toUInt8
    have h4:Lib.indexByte (b::l) c.toUInt8=if Lib.indexByte l c.toUInt8= -1 then-1 else Lib.indexByte l c.toUInt8+1:=by
     rw [Lib.indexByte];simp [eM]
    rw [h4]
    by_cases h5:Lib.indexByte l c.toUInt8= -1
    · rw [if_pos h5]at ih ⊢;simpa using ih
    · rw [if_neg h5]at ih ⊢;rw [if_neg (by omega)];rw [show Lib.indexByte l c.toUInt8+1+(i:Int)=Lib.indexByte l c.toUInt8+((i+1:Nat):Int) by omega];exact ih
theorem avE {e:Array Z→Sem Z}{c:Call}(hx:∀v,(e (c.args.map ρ)).run P w= .ok v w→(execOp ρ o).run P w= .ok (.value v) w)(he:e=Extern.BytealgCount.count)(H:HR P w0 φ h w)(hv:LR φ vs (c.args.toList.map ρ))(q:akC vs h k=true):PR P w0 φ h ((execOp ρ o).run P w) fun v h'=>k v h'=true:=by
 obtain⟨p,r,aM,e1⟩:=lx q;subst aM;obtain⟨p',r',hp,hr,hq⟩:=hv.two;obtain⟨s,aM,e2⟩:=ql e1;subst aM;obtain⟨kd,n,aM,e3⟩:=tt e2;subst aM;have hs:=hr.od;have hn:=hq.lj;cases n with
 | negSucc n=>cases e3
 | ofNat n=>
  obtain⟨e4,e5⟩:=dX (show iff (jE kd .u8&&Nat.ble (Nat.succ n) 256) _=true from e3);rw [zae]at e4;have hk:=uO e4.1;subst hk;have cy:n<256:=zaa e4.2;rw [dG,count_eq n cy]at e5;refine .same H (hx (.int .i64 (Lib.countByte s.data.toList n.toUInt8:Nat)) ?_) (.int _ _) e5;have:c.args.map ρ= #[.string s,.int .u8 (Int.ofNat n)]:=by apply za8;rw [Array.toList_map,hp,hs,hn]
  rw [this,he];exact Lib.run_countString s (Int.ofNat n) w
theorem avG {e:Array Z→Sem Z}{c:Call}(hx:∀v,(e (c.args.map ρ)).run P w= .ok v w→(execOp ρ o).run P w= .ok (.value v) w)(he:e=Extern.BytealgIndexByte.indexByte)(H:HR P w0 φ h w)(hv:LR φ vs (c.args.toList.map ρ))(q:akD vs h k=true):PR P w0 φ h ((execOp ρ o).run P w) fun v h'=>k v h'=true:=by
 obtain⟨p,r,aM,e1⟩:=lx q;subst aM;obtain⟨p',r',hp,hr,hq⟩:=hv.two;obtain⟨s,aM,e2⟩:=ql e1;subst aM;obtain⟨kd,n,aM,e3⟩:=tt e2;subst aM;have hs:=hr.od;have hn:=hq.lj;cases n with
 | negSucc n=>cases e3
 | ofNat n=>
  obtain⟨e4,e5⟩:=dX (show iff (jE kd .u8&&Nat.ble (Nat.succ n) 256) _=true from e3);rw [zae]at e4;have hk:=uO e4.1;subst hk;have cy:n<256:=zaa e4.2;have e6:=alC n cy _ _ e5;have hid:(if Lib.indexByte s.data.toList n.toUInt8= -1 then(-1:Int)else Lib.indexByte s.data.toList n.toUInt8+((0:Nat):Int))=Lib.indexByte s.data.toList n.toUInt8:=by split<;>omega
  rw [hid]at e6;refine .same H (hx (.int .i64 (Lib.indexByte s.data.toList n.toUInt8)) ?_) (.int _ _) e6;have:c.args.map ρ= #[.string s,.int .u8 (Int.ofNat n)]:=by apply za8;rw [Array.toList_map,hp,hs,hn]
  rw [this,he];exact Lib.run_indexByteString s (Int.ofNat n) w
end
end Go.Ve
