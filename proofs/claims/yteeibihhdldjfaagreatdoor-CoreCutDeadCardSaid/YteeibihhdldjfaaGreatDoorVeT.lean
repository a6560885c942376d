/- Part 20: From a call that returns true, and changes nothing of what was there, where the listed variables are as they are laid, to the law's row. Conditions: as the rows' builders ask. -/
import Derived.Test.YteeibihhdldjfaaGreatDoorVeS
import Derived.Lay
import Derived.LaidMore
import Derived.MakeChecks
import Derived.Stop.Joined
import Derived.Stop.LaidErr
set_option linter.unusedVariables false
set_option linter.unusedSimpArgs false
namespace Go.Ve
open Go.ChangeShapes Go.WideShapes Go.ChangeAt Go.RowKit
theorem auq {H:Type}{enc:TypeId×Value→H}{C:Checked}{os:Os}{f:FuncId}{fn:Func}{s:ChangeSpec}{tb:TypeId}{laid:List (String×DataW Unit)}(own:ownKnob C.prog.godebug=none) (started:os.Started) (aId:C.prog.inits.idxOf? f=none) (oW:C.prog.funcs[f]? =some fn)
 (aIe:(laid.all fun x=>x.2.handleName?.isNone)=true)
 (witness:∃(w:World) (tape:Tape) (i:Input),w.os=os∧(w.forCall tape i).Shaped C.prog∧i.vars=[]∧Input.okWide C.prog (w.forCall tape i) .any w.heap.size f i∧
  ((s.pre enc C.prog fn [] false (w.forCall tape i).memory i.args∧laidMetH C.prog laid (w.forCall tape i).memory)∧sizedMet enc C.prog fn (OpenSpec.ofChange s) false (w.forCall tape i).memory i.args)∧({}:Assume).holds C.prog (lone (Frame.enter C.prog f i.args .normal) [] (w.forCall tape i)))
 (hl:laidOutB C.prog=true) (jL:∀t∈fn.params.toList,C.prog.readableRec t=true∧t<C.prog.types.size)
 (FJ:fn.resultTypes= #[tb]) (htb:C.prog.underlying tb=some .bool) (Uz:s.vars=[]) (adQ:∀ds:List (DataW H),ds.length=fn.params.toList.length→s.fn H ds={results:=[.lit (.bool true)],args:=ds})
 (walk:∀(W:World) (base:Nat) (args:Array Value) (ds:List (DataW H)) (ps:List MemPlace),(∀(j:Nat) t v,fn.params[j]? =some t→args[j]? =some v→Value.okWide C.prog W .any base t v)→
  DataW.TrodAll enc C.prog W 0 (fun _=>true) true fn.params.toList args.toList ds ps→laidMet C.prog laid W→Calls C.prog f args W fun e w'=>e= .returned (.bool true)∧Below W.heap.size W w'):
 ReturnsInHanded {} C os f .any (fun w args=>(s.pre enc C.prog fn [] false w args∧laidMetH C.prog laid w)∧sizedMet enc C.prog fn (OpenSpec.ofChange s) false w args) (s.post enc C.prog fn false true false false):=by
 refine returnsInHanded_of_change_and (X:=fun w _=>laidMetH C.prog laid w) (fun _ _ _ hh h=>h.of_heap hh) own started aId oW witness ?_
 intro W base args ds gs before KU hW _ _ hL _
 have hW0:=hW
 obtain⟨p,q,hA,hV,hpq,hz,hn⟩:=hW
 rw [MakeChecks.laidMetH_plain _ _ _ aIe]at hL
 refine(walk W base args ds p KU hA hL).mono fun e W' he=>?_
 exact⟨_,he.1,ayz hl jL FJ htb Uz adQ hW0 he.2⟩
end Go.Ve
