/- Part 2: from the program's own code to the evaluator's. Definitions; no condition. -/
import Derived.Test.YteeibihhdldjfaaGreatDoorVeA
import GoSem.Extern.Table
set_option linter.unusedVariables false
set_option linter.unusedSimpArgs false
namespace Go.Ve
def TK:Z→Bool | .bool _ | .int _ _ | .string _ | .pointer none | .map none | .nilFunc | .nilIface=>true | .slice none l c=>l==0&&c==0 | _=>false
def Hy:Z→Bool | .agg cs=>cs.toList.all TK | .func (.func _) a b=>a.isEmpty&&b.isEmpty | v=>TK v
def vK:Operand→Option gp | .tmp t=>some (.t (Pos.of t)) | .const v=>if Hy v then some (.c v)else none | .func f=>some (.c (.func (.func f) #[] #[])) | .global _=>none
def sd:TypeDesc→Bool | .struct _ | .array _ _=>true | _=>false
def oc:TypeDesc→Option Nat | .int _=>some 0 | .bool=>some 1 | .string=>some 2 | _=>none
def Fq:Operand→Bool | .const .nilIface=>true | _=>false
def alh:Operand→Bool | .const (.pointer none)=>true | _=>false
def TL (P:Program) (u:TypeId):List (TypeId×Nat):=((List.range P.types.size).filter fun t=>(t==u||(match P.underlying t with | some (.struct fs)=>(fs[0]?).any (·.type==u) | _=>false))&& !(P.cellsOf t==0)&&liesAt P P.depth t 1 0 u 1).map fun t=>(t,P.cellsOf t)
def iN (P:Program) (t:TypeId):Option Nat:=(P.info? t).map (·.size)
def zeroOf (P:Program) (t:TypeId):Option Value:=match P.info? t with
 | some i=>match i.zero with
  | some z=>if Hy z then some z else none
  | none=>none
 | none=>none
def oa (n:Nat) (l:ZZE):ZZE:=match n with | 0=>[] | n+1=>l++oa n l
def H9 (P:Program):Nat→List Field→Option (List Nat)
 | _,[]=>some []
 | n, f :: fs => if f.name ≠ "_" ∧ f.offset = n then
  match (P.underlying f.type).bind oc,H9 P (n+1) fs with
  | some kc,some ks=>some (kc::ks)
  | _,_=>none
  else none
def Ca:Nat→List (Nat×Nat)→Nat→Bool | n,[],m=>n==m | n,(o,s)::ps,m=>n==o&&Ca (n+s) ps m
def EY (zero:ZZE) (ps:List (Nat×Nat)):Prim:=if Ca 0 ps zero.length then .x8 (ps.map (·.2))else .build zero ps
def r9 (P:Program) (o:Oper):Option (nH×List Operand):=match o.op with
 | .move x=>some (.aU .move,[x])
 | .assign x=>some (.aU .move,[x])
 | .pick c a b=>some (.aU .pick,[c,a,b])
 | .alloc e=>match zeroOf P e with
  | some z=>some (.aU (.alloc e z.cells.toList),[])
  | none=>none
 | .box e x=>some (.aU (.box e),[x])
 | .build t parts=>match P.underlying t,zeroOf P t with
  | some (.struct fs),some z=>
   if fs.toList.all (fun f=>(iN P f.type).isSome)then
    match parts.toList.mapM (fun p=>(fs[p.1]?).bind fun f=>(iN P f.type).map fun s=>(f.offset,s))with
    | some ps=>some (.aU (EY z.cells.toList ps),parts.toList.map (·.2))
    | none=>none
   else none
  | some (.array _ e),some z=>match iN P e with
   | some s=>some (.aU (EY z.cells.toList (parts.toList.map fun p=>(p.1*s,s))),parts.toList.map (·.2))
   | none=>none
  | _,_=>none
 | .buildSlice t len parts=>match P.underlying t with
  | some (.slice e)=>match iN P e,zeroOf P e with
   | some s,some z=>if len*s≤65536&&z.cells.size==s&&0<s then some (.aU (.buildSlice e len (oa len z.cells.toList) (parts.toList.map fun p=>(p.1*s,s))),parts.toList.map (·.2))else none
   | _,_=>none
  | _=>none
 | .load t a=>match P.underlying t,iN P t with
  | some d,some s=>if sd d then some (.aU (.bZ s),[a])else some (.aU .aB,[a])
  | _,_=>none
 | .store t a v=>match iN P t with
  | some s=>some (.aU (.store s),[a,v])
  | none=>none
 | .nilCheck x=>some (.aU .nilCheck,[x])
 | .fieldAddr s x f=>match P.underlying s with
  | some (.struct fs)=>match fs[f]? with
   | some fl=>match iN P fl.type with
    | some sz=>if sz=0 then none else some (.aU (.fieldAddr fl.offset),[x])
    | none=>none
   | none=>none
  | _=>none
 | .field s x f=>match P.underlying s with
  | some (.struct fs)=>match fs[f]? with
   | some fl=>match P.underlying fl.type,iN P fl.type with
    | some d,some sz=>if sd d then some (.aU (.auF fl.offset sz),[x])else some (.aU (.abf fl.offset),[x])
    | _,_=>none
   | none=>none
  | _=>none
 | .indexAddr t x i=>match P.underlying t with
  | some (.array len e)=>match iN P e with
   | some s=>some (.aU (.Q1 len s),[x,i])
   | none=>none
  | some (.slice e)=>match iN P e with
   | some s=>some (.aU (.cf s),[x,i])
   | none=>none
  | _=>none
 | .index t x i=>match P.underlying t with
  | some (.array len e)=>match P.underlying e,iN P e with
   | some d,some s=>if sd d then some (.aU (.X6 len s),[x,i])else if s=1 then some (.aU (.x9 len),[x,i])else none
   | _,_=>none
  | some .string=>some (.aU .ai6,[x,i])
  | _=>none
 | .slice t x lo hi mx=>match P.underlying t with
  | some (.slice e)=>match iN P e with
   | some s=>if 0<s&&(hi.isSome|| !mx.isSome)then some (.aU (.slice s lo.isSome hi.isSome mx.isSome),x::(lo.toList++hi.toList++mx.toList))else none
   | none=>none
  | some (.array n e)=>match iN P e with
   | some s=>if hi.isSome|| !mx.isSome then some (.aU (.ai7 n s lo.isSome hi.isSome mx.isSome),x::(lo.toList++hi.toList++mx.toList))else none
   | none=>none
  | some .string=>if mx.isSome then none else some (.aU (.x (.sub lo.isSome hi.isSome)),x::(lo.toList++hi.toList))
  | _=>none
 | .binOp op t x y _=>match P.underlying t with
  | some (.int _)=>some (.aU (.aL op),[x,y])
  | some .string=>match op with
   | .eql | .neq=>some (.aU (.zT op),[x,y])
   | .add=>some (.aU (.x .cat),[x,y])
   | .lss | .leq | .gtr | .geq=>some (.aU (.x (.auv op)),[x,y])
   | _=>none
  | some .bool=>match op with
   | .eql=>some (.aU (.SC false),[x,y])
   | .neq=>some (.aU (.SC true),[x,y])
   | _=>none
  | some (.struct fs)=>if !P.stoodInHeld t&& !P.eqGuardType P.depth t then match H9 P 0 fs.toList,op with
   | some ks,.eql=>some (.aU (.Ho false ks),[x,y])
   | some ks,.neq=>some (.aU (.Ho true ks),[x,y])
   | _,_=>none else none
  | some (.pointer te)=>if alh x||alh y then match op with
   | .eql=>some (.aU (.rT 0 false),[x,y])
   | .neq=>some (.aU (.rT 0 true),[x,y])
   | _=>none else match P.info? te,op with
   | some _,.eql=>some (.aU (.x (.ai5 false)),[x,y])
   | some _,.neq=>some (.aU (.x (.ai5 true)),[x,y])
   | _,_=>none
  | some (.slice _)=>match op with
   | .eql=>some (.aU (.rT 1 false),[x,y])
   | .neq=>some (.aU (.rT 1 true),[x,y])
   | _=>none
  | some (.map _ _)=>match op with
   | .eql=>some (.aU (.rT 2 false),[x,y])
   | .neq=>some (.aU (.rT 2 true),[x,y])
   | _=>none
  | some (.func _ _ _)=>match op with
   | .eql=>some (.aU (.rT 3 false),[x,y])
   | .neq=>some (.aU (.rT 3 true),[x,y])
   | _=>none
  | some (.interface _)=>if Fq x||Fq y then match op with
   | .eql=>some (.aU (.rT 4 false),[x,y])
   | .neq=>some (.aU (.rT 4 true),[x,y])
   | _=>none else none
  | _=>none
 | .unOp op _ x=>match op with
  | .neg=>some (.aU .neg,[x])
  | .not=>some (.aU .ed,[x])
  | _=>none
 | .convert src dst x=>match P.underlying src,P.underlying dst with
  | some (.int _),some (.int k)=>some (.aU (.conv k),[x])
  | some (.pointer t),some .unsafePointer=>match P.info? t with
   | some i=>if i.size=0 then none else some (.aU (.x .auz),[x])
   | none=>none
  | some .unsafePointer,some (.pointer u)=>match P.info? u with
   | some _=>some (.aU (.x (.auA (TL P u))),[x])
   | none=>none
  | _,_=>none
 | .makeInterface t x=>match P.underlying t with
  | some (.interface _) | none=>none
  | _=>some (.aU (.YS t),[x])
 | .makeFunc fn first dm=>match fn with
  | .func f=>some (.aU (.xZ (.func f) first.size),first.toList++dm.toList)
  | .method s=>some (.aU (.xZ (.method s) first.size),first.toList++dm.toList)
  | _=>none
 | .makeMap _ r=>match r with
  | none=>some (.aU .mkMap,[])
  | some _=>none
 | .makeSlice t l c=>match P.underlying t with
  | some (.slice e)=>match P.info? e,zeroOf P e with
   | some i,some z=>if 0<i.size&&i.bytes≤65536&&z.cells.size==i.size then some (.aU (.mkSlice e i.size z.cells.toList),[l,c])else none
   | _,_=>none
  | _=>none
 | .lookup t m x ok=>match P.underlying t with
  | some (.map kt e)=>match (P.underlying kt).bind oc,zeroOf P e with
   | some kc,some z=>some (.aU (.lookup kc z ok),[m,x])
   | _,_=>none
  | _=>none
 | .mapUpdate t m x v | .insert t m x v=>match P.underlying t with
  | some (.map kt _)=>match (P.underlying kt).bind oc with
   | some kc=>some (.aU (.ye kc),[m,x,v])
   | none=>none
  | _=>none
 | .extract x i=>some (.aU (.extract i),[x])
 | .typeAssert x _ asserted ok=>match P.underlying asserted,zeroOf P asserted with
  | some (.interface _),_=>none
  | some _,some z=>if ok then some (.aU (.ai8 asserted z),[x])else none
  | _,_=>none
 | .range t x=>match P.underlying t with
  | some .string=>some (.aU .Ks,[x])
  | some (.map _ _)=>some (.aU (.x .KN),[x])
  | _=>none
 | .next x isString=>if isString then some (.aU .BV,[x])else some (.aU (.x .EJ),[x])
 | .entry x=>some (.aU (.x .entry),[x])
 | .call c=>match c.callee with
  | .value (.func g)=>match P.funcs[g]? with
   | some fn => if fn.name != "runtime.NumGoroutine" && fn.body.isSome then some (.call g, c.args.toList) else if fn.body.isNone && (Extern.findNext fn).isNone then
    if fn.name == "internal/abi.NoEscape" then some (.aU (.x .same), c.args.toList)
    else if fn.name == "internal/bytealg.CountString" then some (.aU (.x .auD), c.args.toList)
    else if fn.name == "internal/bytealg.IndexByteString" then some (.aU (.x .auE), c.args.toList)
    else none
    else none
   | none=>none
  | .value f=>some (.dyn,f::c.args.toList)
  | .invoke _ _=>none
  | .builtin b=>match b with
   | .len=>match c.args.toList,c.argTypes[0]? with
    | [x],some t=>match P.underlying t with
     | some .string=>some (.aU .Xz,[x])
     | some (.slice _)=>some (.aU .cb,[x])
     | some (.map _ _)=>some (.aU .Ht,[x])
     | some (.array n _)=>some (.aU (.auG n),[x])
     | _=>none
    | _,_=>none
   | .cap=>match c.args.toList,c.argTypes[0]? with
    | [x],some t=>match P.underlying t with
     | some (.slice _)=>some (.aU (.x .auw),[x])
     | _=>none
    | _,_=>none
   | .append=>match c.args.toList,c.argTypes[0]?,c.argTypes[1]? with
    | [s,x],some t,some u=>match P.underlying t,P.underlying u with
     | some (.slice e),some (.slice _)=>match P.info? e,zeroOf P e with
      | some i,some z=>if 0<i.size&&i.bytes≤65536&&z.cells.size==i.size then some (.aU (.append e i.size z.cells.toList),[s,x])else none
      | _,_=>none
     | some (.slice e),some .string=>match P.info? e,zeroOf P e with
      | some i,some z=>if i.size==1&&i.bytes≤65536&&z.cells.size==1 then some (.aU (.x (.auy e z.cells.toList)),[s,x])else none
      | _,_=>none
     | _,_=>none
    | _,_,_=>none
   | .copy=>match c.args.toList,c.argTypes[0]? with
    | [d,s],some t=>match P.underlying t with
     | some (.slice e)=>match iN P e with
      | some sz=>some (.aU (.copy sz),[d,s])
      | none=>none
     | _=>none
    | _,_=>none
   | .max=>match c.args.toList with
    | [x,y]=>some (.aU .auH,[x,y])
    | _=>none
   | .min=>match c.args.toList with
    | [x,y]=>some (.aU .auI,[x,y])
    | _=>none
   | .recover=>match c.args.toList with
    | []=>some (.recover,[])
    | _=>none
   | .unsafeSliceData=>match c.args.toList with
    | [x]=>some (.aU (.x .auB),[x])
    | _=>none
   | .unsafeString=>match c.args.toList,c.argTypes[0]? with
    | [p,n],some t=>match P.underlying t with
     | some (.pointer u)=>if P.cellsOf u=1 then some (.aU (.x (.auC u)),[p,n])else none
     | _=>none
    | _,_=>none
   | .panic=>match c.args.toList with
    | [x]=>some (.panic,[x])
    | _=>none
   | _=>none
 | .panic x=>some (.panic,[x])
 | .defer c=>match c.callee with
  | .value f=>some (.defer,f::c.args.toList)
  | _=>none
 | _=>none
def Prim.Cr:Prim→Bool | .store _ | .append _ _ _ | .copy _ | .ye _ | .Ks | .BV | .mkMap | .mkSlice _ _ _ | .x _=>true | _=>false
def nH.Cr:nH→Bool | .aU p=>p.Cr | _=>true
def Lm (P:Program) (o:Oper):nH×List Operand:=match r9 P o with
 | some (a,xs)=>match xs.mapM vK with
  | some _=>(a,xs)
  | none=>(.aU (.x .bad),[])
 | none=>(.aU (.x .bad),[])
def uS (P:Program) (nt:Nat) (ops:Array Oper) (o:Oper):Option cB:=
 match Lm P o with
 | (a,xs)=>
  match xs.mapM vK with
  | none=>none
  | some args=>
   let dst? :Option (Option Pos):=match o.dst with
    | none=>some none
    | some d=>if d<nt then some (some (Pos.of d))else none
   match dst? with
   | none=>none
   | some dst=>match o.guard with
    | none=>some ⟨dst,a,args,none⟩
    | some (g,want)=>match (ops[g]?).bind (·.dst)with
     | some t=>some ⟨dst,a,args,some (Pos.of t,want)⟩
     | none=>none
def Lo (P:Program) (nt:Nat) (ops:Array Oper):Option (List cB):=ops.toList.mapM (uS P nt ops)
def ali (o:Oper):List Nat:=(o.after.toList.filter (Region.binds .any ·)).map (·.on)
def axc:gp→Option Pos | .t p=>some p | .c _=>none
def cB.reads (a:cB):List Pos:=a.args.filterMap axc++(match a.guard with | some (p,_)=>[p] | none=>[])
def TD (l:List Pos) (p:Pos):Bool:=l.any p.beq
def ju (ops:Array Oper) (i:Nat):List Nat:=match ops[i]? with | some o=>ali o | none=>[]
def acI (ops:Array Oper) (as:Array cB) (j:Nat):Bool:=match (as[j]?).bind (·.dst)with | none=>false | some d=>(List.range ops.size).any fun i=>match as[i]? with | some a=>TD a.reads d&& !(ju ops i).contains j | none=>false
def yE (ops:Array Oper) (as:Array cB) (j:Nat):Bool:=match as[j]? with | some a=>a.act.Cr||a.dst.isNone||acI ops as j | none=>true
def alj (ops:Array Oper) (act:Nat→Bool) (b:Bool) (done:List Nat):Option Nat:=(List.range ops.size).find? fun i=> !done.contains i&&(act i==b)&&(ju ops i).all done.contains
def acJ (ops:Array Oper) (act:Nat→Bool):Nat→List Nat→List Nat | 0,_=>[] | f+1,done=>match alj ops act false done with | some i=>i::acJ ops act f (i::done) | none=>match alj ops act true done with | some i=>i::acJ ops act f (i::done) | none=>[]
def Cs (ops:Array Oper):List Nat→List Nat→List Nat | S,[]=>S | S,j::done=>if S.contains j then Cs ops (ju ops j++S) done else Cs ops S done
def L6 (as:Array cB):List Nat→Option (List nI) | []=>some [] | j::l=>match as[j]?,L6 as l with | some a,some r=>some (.mz j a::r) | _,_=>none
def Cy (ops:Array Oper) (as:Array cB) (done gq:List Nat):List Nat→Option (List nI) | []=>if (List.range ops.size).all done.contains then some []else none | i::order=>match as[i]? with | none=>none | some a=>if !done.contains i&&(ju ops i).all done.contains then if yE ops as i then if (List.range ops.size).all (fun j=>done.contains j||j==i|| !(ju ops j).all done.contains)then match L6 as (gq.filter fun j=> !(Cs ops (ju ops i) done).contains j),Cy ops as (i::done) (gq.filter fun j=> !(Cs ops (ju ops i) done).contains j) order with | some cs,some r=>some (.op i a::(cs++r)) | _,_=>none else none else(Cy ops as (i::done) (i::gq) order).map (nI.op i a:: ·)else none
def AF (ops:Array Oper) (as:Array cB):Bool:=(List.range ops.size).all fun j=>match (as[j]?).bind (·.dst)with | none=>true | some d=>(List.range ops.size).all fun i=>match as[i]? with | none=>true | some a=>(i==j||(match a.dst with | some d'=> !d.beq d' | none=>true))&&(!TD a.reads d||i==j||(ju ops i).contains j||(ju ops j).contains i)
def abB (ops:Array Oper) (as:Array cB):Option (List nI):=if AF ops as then Cy ops as [] [] (acJ ops (yE ops as) ops.size [])else none
def acK:fw:=.ops [⟨none,.aU (.x .bad),[],none⟩]
def kR (P:Program) (nt:Nat):Code→Option fw
 | .skip=>some .skip
 | .label _=>some .skip
 | .region _ ops false=>(Lo P nt ops).map .ops
 | .region _ ops true=>match Lo P nt ops with
  | some l=>match abB ops l.toArray with
   | some d=>some (.draw d)
   | none=>some acK
  | none=>none
 | .seq a b=>match kR P nt a,kR P nt b with
  | some x,some y=>some (.seq x y)
  | _,_=>none
 | .cond c a b=>match vK c,kR P nt a,kR P nt b with
  | some c,some x,some y=>some (.cond c x y)
  | _,_,_=>none
 | .block id c=>(kR P nt c).map (.block id)
 | .loop c=>(kR P nt c).map .loop
 | .scope c=>kR P nt c
 | .rangeFunc f ps a b=>match vK f,kR P nt a,kR P nt b with
  | some f',some x,some y=>if ps.toList.all (· <nt)then some (.tr f' (ps.toList.map Pos.of) x y)else none
  | _,_,_=>none
 | .exit id=>some (.exit id)
 | .ret=>some .ret
 | .goto _=>some acK
 | .refuse _=>some acK
def alk (o:cB):Bool:=match o.act with | .aU (.x .EJ)=>true | _=>false
def fw.nm:fw→Bool
 | .ops l=>l.any alk
 | .draw l=>l.any fun d=>match d with
  | .op _ o=>alk o
  | _=>false
 | .seq a b=>a.nm||b.nm
 | .cond _ a b=>a.nm||b.nm
 | .block _ c=>c.nm
 | .loop c=>c.nm
 | .tr _ _ a b=>a.nm||b.nm
 | _=>false
def yu (P:Program):ResultVar→Option qV | .tmp t=>some (.tmp (Pos.of t)) | .cell a t=>match P.underlying t,iN P t with | some d,some s=>if sd d then some (.cell (Pos.of a) (some s))else some (.cell (Pos.of a) none) | _,_=>none
def c7 (P:Program) (f:FuncId):Option lv:=match P.funcs[f]? with
 | none=>none
 | some fn => if fn.name == "runtime.NumGoroutine" then none else match fn.body with
  | none=>none
  | some c=>match fn.results.toList.mapM (yu P),kR P fn.ntmps c with
   | some rs,some ac=>some ⟨fn.ntmps,rs,ac,ac.nm⟩
   | _,_=>none
end Go.Ve
