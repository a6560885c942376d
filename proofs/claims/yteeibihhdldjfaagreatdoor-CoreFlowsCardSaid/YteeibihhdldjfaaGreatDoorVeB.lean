/- Part 2: VEval, part 3: from the program's own code to the evaluator's. Definitions; no condition. -/
import Derived.Test.YteeibihhdldjfaaGreatDoorVeA
import GoSem.Extern.Table
set_option linter.unusedVariables false
set_option linter.unusedSimpArgs false
namespace Go.Ve
def Lp:Value→Bool
 | .bool _ | .int _ _ | .string _ | .pointer none | .map none | .nilFunc | .nilIface=>true
 | .slice none l c=>l==0&&c==0
 | _=>false
def BJ:Value→Bool
 | .agg cs=>cs.toList.all Lp
 | .func (.func _) a b=>a.isEmpty&&b.isEmpty
 | v=>Lp v
def qc:Operand→Option eL
 | .tmp t=>some (.t (Pos.of t))
 | .const v=>if BJ v then some (.c v)else none
 | .func f=>some (.c (.func (.func f) #[] #[]))
 | .global _=>none
def nO:TypeDesc→Bool
 | .struct _ | .array _ _=>true
 | _=>false
def kU:TypeDesc→Option Nat
 | .int _=>some 0
 | .bool=>some 1
 | .string=>some 2
 | _=>none
def zu:Operand→Bool
 | .const .nilIface=>true
 | _=>false
def aco:Operand→Bool
 | .const (.pointer none)=>true
 | _=>false
def Lq (P:Program) (u:TypeId):List (TypeId×Nat):=((List.range P.types.size).filter fun t=>(t==u||(match P.underlying t with | some (.struct fs)=>(fs[0]?).any (·.type==u) | _=>false))&& !(P.cellsOf t==0)&&liesAt P P.depth t 1 0 u 1).map fun t=>(t,P.cellsOf t)
def fo (P:Program) (t:TypeId):Option Nat:=(P.info? t).map (·.size)
def zeroOf (P:Program) (t:TypeId):Option Value:=match P.info? t with
 | some i=>match i.zero with
  | some z=>if BJ z then some z else none
  | none=>none
 | none=>none
def kT (n:Nat) (l:List Value):List Value:=match n with
 | 0=>[]
 | n+1=>l++kT n l
def Cd (P:Program):Nat→List Field→Option (List Nat)
 | _,[]=>some []
 | n, f :: fs => if f.name ≠ "_" ∧ f.offset = n then
  match (P.underlying f.type).bind kU,Cd P (n+1) fs with
  | some kc,some ks=>some (kc::ks)
  | _,_=>none
  else none
def wk:Nat→List (Nat×Nat)→Nat→Bool
 | n,[],m=>n==m
 | n,(o,s)::ps,m=>n==o&&wk (n+s) ps m
def za (zero:List Value) (ps:List (Nat×Nat)):Prim :=
 if wk 0 ps zero.length then .eo (ps.map (·.2))else .build zero ps
def nM (P:Program) (o:Oper):Option (kB×List Operand):=match o.op with
 | .move x=>some (.aU .move,[x])
 | .assign x=>some (.aU .move,[x])
 | .pick c a b=>some (.aU .pick,[c,a,b])
 | .alloc e=>match zeroOf P e with
  | some z=>some (.aU (.alloc e z.cells.toList),[])
  | none=>none
 | .box e x=>some (.aU (.box e),[x])
 | .build t parts=>match P.underlying t,zeroOf P t with
  | some (.struct fs),some z =>
   if fs.toList.all (fun f=>(fo P f.type).isSome)then
    match parts.toList.mapM (fun p=>(fs[p.1]?).bind fun f=>(fo P f.type).map fun s=>(f.offset,s))with
    | some ps=>some (.aU (za z.cells.toList ps),parts.toList.map (·.2))
    | none=>none
   else none
  | some (.array _ e),some z=>match fo P e with
   | some s=>some (.aU (za z.cells.toList (parts.toList.map fun p=>(p.1*s,s))),parts.toList.map (·.2))
   | none=>none
  | _,_=>none
 | .buildSlice t len parts=>match P.underlying t with
  | some (.slice e)=>match fo P e,zeroOf P e with
   | some s,some z=>if len*s≤65536&&z.cells.size==s&&0<s then some (.aU (.buildSlice e len (kT len z.cells.toList) (parts.toList.map fun p=>(p.1*s,s))),parts.toList.map (·.2))else none
   | _,_=>none
  | _=>none
 | .load t a=>match P.underlying t,fo P t with
  | some d,some s=>if nO d then some (.aU (.bV s),[a])else some (.aU .aH,[a])
  | _,_=>none
 | .store t a v=>match fo P t with
  | some s=>some (.aU (.store s),[a,v])
  | none=>none
 | .nilCheck x=>some (.aU .nilCheck,[x])
 | .fieldAddr s x f=>match P.underlying s with
  | some (.struct fs)=>match fs[f]? with
   | some fl=>match fo P fl.type with
    | some sz=>if sz=0 then none else some (.aU (.fieldAddr fl.offset),[x])
    | none=>none
   | none=>none
  | _=>none
 | .field s x f=>match P.underlying s with
  | some (.struct fs)=>match fs[f]? with
   | some fl=>match P.underlying fl.type,fo P fl.type with
    | some d,some sz=>if nO d then some (.aU (.ajl fl.offset sz),[x])else some (.aU (.RG fl.offset),[x])
    | _,_=>none
   | none=>none
  | _=>none
 | .indexAddr t x i=>match P.underlying t with
  | some (.array len e)=>match fo P e with
   | some s=>some (.aU (.Bz len s),[x,i])
   | none=>none
  | some (.slice e)=>match fo P e with
   | some s=>some (.aU (.bG s),[x,i])
   | none=>none
  | _=>none
 | .index t x i=>match P.underlying t with
  | some (.array len e)=>match P.underlying e,fo P e with
   | some d,some s=>if nO d then some (.aU (.ON len s),[x,i])else if s=1 then some (.aU (.tU len),[x,i])else none
   | _,_=>none
  | some .string=>some (.aU .Z5,[x,i])
  | _=>none
 | .slice t x lo hi mx=>match P.underlying t with
  | some (.slice e)=>match fo P e with
   | some s=>if 0<s&&(hi.isSome|| !mx.isSome)then some (.aU (.slice s lo.isSome hi.isSome mx.isSome),x::(lo.toList++hi.toList++mx.toList))else none
   | none=>none
  | some (.array n e)=>match fo P e with
   | some s=>if hi.isSome|| !mx.isSome then some (.aU (.Z6 n s lo.isSome hi.isSome mx.isSome),x::(lo.toList++hi.toList++mx.toList))else none
   | none=>none
  | some .string=>if mx.isSome then none else some (.aU (.x (.sub lo.isSome hi.isSome)),x::(lo.toList++hi.toList))
  | _=>none
 | .binOp op t x y _=>match P.underlying t with
  | some (.int _)=>some (.aU (.aE op),[x,y])
  | some .string=>match op with
   | .eql | .neq=>some (.aU (.Z7 op),[x,y])
   | .add=>some (.aU (.x .cat),[x,y])
   | .lss | .leq | .gtr | .geq=>some (.aU (.x (.ajc op)),[x,y])
   | _=>none
  | some .bool=>match op with
   | .eql=>some (.aU (.Km false),[x,y])
   | .neq=>some (.aU (.Km true),[x,y])
   | _=>none
  | some (.struct fs)=>if !P.stoodInHeld t&& !P.eqGuardType P.depth t then match Cd P 0 fs.toList,op with
   | some ks,.eql=>some (.aU (.Z8 false ks),[x,y])
   | some ks,.neq=>some (.aU (.Z8 true ks),[x,y])
   | _,_=>none else none
  | some (.pointer te)=>if aco x||aco y then match op with
   | .eql=>some (.aU (.qS 0 false),[x,y])
   | .neq=>some (.aU (.qS 0 true),[x,y])
   | _=>none else match P.info? te,op with
   | some _,.eql=>some (.aU (.x (.Z4 false)),[x,y])
   | some _,.neq=>some (.aU (.x (.Z4 true)),[x,y])
   | _,_=>none
  | some (.slice _)=>match op with
   | .eql=>some (.aU (.qS 1 false),[x,y])
   | .neq=>some (.aU (.qS 1 true),[x,y])
   | _=>none
  | some (.map _ _)=>match op with
   | .eql=>some (.aU (.qS 2 false),[x,y])
   | .neq=>some (.aU (.qS 2 true),[x,y])
   | _=>none
  | some (.func _ _ _)=>match op with
   | .eql=>some (.aU (.qS 3 false),[x,y])
   | .neq=>some (.aU (.qS 3 true),[x,y])
   | _=>none
  | some (.interface _)=>if zu x||zu y then match op with
   | .eql=>some (.aU (.qS 4 false),[x,y])
   | .neq=>some (.aU (.qS 4 true),[x,y])
   | _=>none else none
  | _=>none
 | .unOp op _ x=>match op with
  | .neg=>some (.aU .neg,[x])
  | .not=>some (.aU .ic,[x])
  | _=>none
 | .convert src dst x=>match P.underlying src,P.underlying dst with
  | some (.int _),some (.int k)=>some (.aU (.conv k),[x])
  | some (.pointer t),some .unsafePointer=>match P.info? t with
   | some i=>if i.size=0 then none else some (.aU (.x .ajf),[x])
   | none=>none
  | some .unsafePointer,some (.pointer u)=>match P.info? u with
   | some _=>some (.aU (.x (.ajg (Lq P u))),[x])
   | none=>none
  | _,_=>none
 | .makeInterface t x=>match P.underlying t with
  | some (.interface _) | none=>none
  | _=>some (.aU (.O0 t),[x])
 | .makeFunc fn first cr=>match fn with
  | .func f=>some (.aU (.yA (.func f) first.size),first.toList++cr.toList)
  | .method s=>some (.aU (.yA (.method s) first.size),first.toList++cr.toList)
  | _=>none
 | .makeMap _ r=>match r with
  | none=>some (.aU .mkMap,[])
  | some _=>none
 | .makeSlice t l c=>match P.underlying t with
  | some (.slice e)=>match P.info? e,zeroOf P e with
   | some i,some z=>if 0<i.size&&i.bytes≤65536&&z.cells.size==i.size then some (.aU (.mkSlice e i.size z.cells.toList),[l,c])else none
   | _,_=>none
  | _=>none
 | .lookup t m x ok=>match P.underlying t with
  | some (.map kt e)=>match (P.underlying kt).bind kU,zeroOf P e with
   | some kc,some z=>some (.aU (.lookup kc z ok),[m,x])
   | _,_=>none
  | _=>none
 | .mapUpdate t m x v | .insert t m x v=>match P.underlying t with
  | some (.map kt _)=>match (P.underlying kt).bind kU with
   | some kc=>some (.aU (.sk kc),[m,x,v])
   | none=>none
  | _=>none
 | .extract x i=>some (.aU (.extract i),[x])
 | .typeAssert x _ asserted ok=>match P.underlying asserted,zeroOf P asserted with
  | some (.interface _),_=>none
  | some _,some z=>if ok then some (.aU (.Z9 asserted z),[x])else none
  | _,_=>none
 | .range t x=>match P.underlying t with
  | some .string=>some (.aU .RH,[x])
  | some (.map _ _)=>some (.aU (.x .Eb),[x])
  | _=>none
 | .next x isString=>if isString then some (.aU .RI,[x])else some (.aU (.x .yJ),[x])
 | .entry x=>some (.aU (.x .entry),[x])
 | .call c=>match c.callee with
  | .value (.func g)=>match P.funcs[g]? with
   | some fn => if fn.name != "runtime.NumGoroutine" && fn.body.isSome then some (.call g, c.args.toList) else if fn.body.isNone && (Extern.findNext fn).isNone then
    if fn.name == "internal/abi.NoEscape" then some (.aU (.x .same), c.args.toList)
    else if fn.name == "internal/bytealg.CountString" then some (.aU (.x .ajj), c.args.toList)
    else if fn.name == "internal/bytealg.IndexByteString" then some (.aU (.x .ajk), c.args.toList)
    else none
    else none
   | none=>none
  | .value f=>some (.dyn,f::c.args.toList)
  | .invoke _ _=>none
  | .builtin b=>match b with
   | .len=>match c.args.toList,c.argTypes[0]? with
    | [x],some t=>match P.underlying t with
     | some .string=>some (.aU .ajm,[x])
     | some (.slice _)=>some (.aU .dG,[x])
     | some (.map _ _)=>some (.aU .Bq,[x])
     | some (.array n _)=>some (.aU (.ajn n),[x])
     | _=>none
    | _,_=>none
   | .cap=>match c.args.toList,c.argTypes[0]? with
    | [x],some t=>match P.underlying t with
     | some (.slice _)=>some (.aU (.x .ajd),[x])
     | _=>none
    | _,_=>none
   | .append=>match c.args.toList,c.argTypes[0]?,c.argTypes[1]? with
    | [s,x],some t,some u=>match P.underlying t,P.underlying u with
     | some (.slice e),some (.slice _)=>match P.info? e,zeroOf P e with
      | some i,some z=>if 0<i.size&&i.bytes≤65536&&z.cells.size==i.size then some (.aU (.append e i.size z.cells.toList),[s,x])else none
      | _,_=>none
     | some (.slice e),some .string=>match P.info? e,zeroOf P e with
      | some i,some z=>if i.size==1&&i.bytes≤65536&&z.cells.size==1 then some (.aU (.x (.aje e z.cells.toList)),[s,x])else none
      | _,_=>none
     | _,_=>none
    | _,_,_=>none
   | .copy=>match c.args.toList,c.argTypes[0]? with
    | [d,s],some t=>match P.underlying t with
     | some (.slice e)=>match fo P e with
      | some sz=>some (.aU (.copy sz),[d,s])
      | none=>none
     | _=>none
    | _,_=>none
   | .max=>match c.args.toList with
    | [x,y]=>some (.aU .ajo,[x,y])
    | _=>none
   | .min=>match c.args.toList with
    | [x,y]=>some (.aU .ajp,[x,y])
    | _=>none
   | .recover=>match c.args.toList with
    | []=>some (.recover,[])
    | _=>none
   | .unsafeSliceData=>match c.args.toList with
    | [x]=>some (.aU (.x .ajh),[x])
    | _=>none
   | .unsafeString=>match c.args.toList,c.argTypes[0]? with
    | [p,n],some t=>match P.underlying t with
     | some (.pointer u)=>if P.cellsOf u=1 then some (.aU (.x (.aji u)),[p,n])else none
     | _=>none
    | _,_=>none
   | .panic=>match c.args.toList with
    | [x]=>some (.panic,[x])
    | _=>none
   | _=>none
 | .panic x=>some (.panic,[x])
 | .defer c=>match c.callee with
  | .value f=>some (.defer,f::c.args.toList)
  | _=>none
 | _=>none
def Prim.wH:Prim→Bool
 | .store _ | .append _ _ _ | .copy _ | .sk _ | .RH | .RI | .mkMap | .mkSlice _ _ _ | .x _=>true
 | _=>false
def kB.wH:kB→Bool
 | .aU p=>p.wH
 | _=>true
def ES (P:Program) (o:Oper):kB×List Operand:=match nM P o with
 | some (a,xs)=>match xs.mapM qc with
  | some _=>(a,xs)
  | none=>(.aU (.x .bad),[])
 | none=>(.aU (.x .bad),[])
def pe (P:Program) (nt:Nat) (ops:Array Oper) (o:Oper):Option bS :=
 match ES P o with
 | (a,xs) =>
  match xs.mapM qc with
  | none=>none
  | some args =>
   let dst? :Option (Option Pos):=match o.dst with
    | none=>some none
    | some d=>if d<nt then some (some (Pos.of d))else none
   match dst? with
   | none=>none
   | some dst=>match o.guard with
    | none=>some ⟨dst,a,args,none⟩
    | some (g,want)=>match (ops[g]?).bind (·.dst)with
     | some t=>some ⟨dst,a,args,some (Pos.of t,want)⟩
     | none=>none
def EU (P:Program) (nt:Nat) (ops:Array Oper):Option (List bS):=ops.toList.mapM (pe P nt ops)
def acp (o:Oper):List Nat:=(o.after.toList.filter (Region.binds .any ·)).map (·.on)
def alS:eL→Option Pos
 | .t p=>some p
 | .c _=>none
def bS.reads (a:bS):List Pos:=a.args.filterMap alS++(match a.guard with
 | some (p,_)=>[p]
 | none=>[])
def Li (l:List Pos) (p:Pos):Bool:=l.any p.beq
def gh (ops:Array Oper) (i:Nat):List Nat:=match ops[i]? with
 | some o=>acp o
 | none=>[]
def TG (ops:Array Oper) (as:Array bS) (j:Nat):Bool:=match (as[j]?).bind (·.dst)with
 | none=>false
 | some d=>(List.range ops.size).any fun i=>match as[i]? with
  | some a=>Li a.reads d&& !(gh ops i).contains j
  | none=>false
def sN (ops:Array Oper) (as:Array bS) (j:Nat):Bool:=match as[j]? with
 | some a=>a.act.wH||a.dst.isNone||TG ops as j
 | none=>true
def acq (ops:Array Oper) (act:Nat→Bool) (b:Bool) (done:List Nat):Option Nat :=
 (List.range ops.size).find? fun i=> !done.contains i&&(act i==b)&&(gh ops i).all done.contains
def TK (ops:Array Oper) (act:Nat→Bool):Nat→List Nat→List Nat
 | 0,_=>[]
 | f+1,done=>match acq ops act false done with
  | some i=>i::TK ops act f (i::done)
  | none=>match acq ops act true done with
   | some i=>i::TK ops act f (i::done)
   | none=>[]
def wI (ops:Array Oper):List Nat→List Nat→List Nat
 | S,[]=>S
 | S,j::done=>if S.contains j then wI ops (gh ops j++S) done else wI ops S done
def Fz (as:Array bS):List Nat→Option (List kC)
 | []=>some []
 | j::l=>match as[j]?,Fz as l with
  | some a,some r=>some (.kR j a::r)
  | _,_=>none
def wO (ops:Array Oper) (as:Array bS) (done eE:List Nat):List Nat→Option (List kC)
 | []=>if (List.range ops.size).all done.contains then some []else none
 | i::order=>match as[i]? with
  | none=>none
  | some a=>if !done.contains i&&(gh ops i).all done.contains then
   if sN ops as i then
    if (List.range ops.size).all (fun j=>done.contains j||j==i|| !(gh ops j).all done.contains)then
     match Fz as (eE.filter fun j=> !(wI ops (gh ops i) done).contains j),wO ops as (i::done) (eE.filter fun j=> !(wI ops (gh ops i) done).contains j) order with
     | some cs,some r=>some (.op i a::(cs++r))
     | _,_=>none
    else none
   else(wO ops as (i::done) (i::eE) order).map (kC.op i a:: ·)
   else none
def uM (ops:Array Oper) (as:Array bS):Bool :=
 (List.range ops.size).all fun j=>match (as[j]?).bind (·.dst)with
  | none=>true
  | some d=>(List.range ops.size).all fun i=>match as[i]? with
   | none=>true
   | some a=>(i==j||(match a.dst with | some d'=> !d.beq d' | none=>true))&&(!Li a.reads d||i==j||(gh ops i).contains j||(gh ops j).contains i)
def Sb (ops:Array Oper) (as:Array bS):Option (List kC) :=
 if uM ops as then wO ops as [] [] (TK ops (sN ops as) ops.size [])else none
def TL:dV:=.ops [⟨none,.aU (.x .bad),[],none⟩]
def iL (P:Program) (nt:Nat):Code→Option dV
 | .skip=>some .skip
 | .label _=>some .skip
 | .region _ ops false=>(EU P nt ops).map .ops
 | .region _ ops true=>match EU P nt ops with
  | some l=>match Sb ops l.toArray with
   | some d=>some (.draw d)
   | none=>some TL
  | none=>none
 | .seq a b=>match iL P nt a,iL P nt b with
  | some x,some y=>some (.seq x y)
  | _,_=>none
 | .cond c a b=>match qc c,iL P nt a,iL P nt b with
  | some c,some x,some y=>some (.cond c x y)
  | _,_,_=>none
 | .block id c=>(iL P nt c).map (.block id)
 | .loop c=>(iL P nt c).map .loop
 | .scope c=>iL P nt c
 | .rangeFunc f ps a b=>match qc f,iL P nt a,iL P nt b with
  | some f',some x,some y=>if ps.toList.all (· <nt)then some (.pU f' (ps.toList.map Pos.of) x y)else none
  | _,_,_=>none
 | .exit id=>some (.exit id)
 | .ret=>some .ret
 | .goto _=>some TL
 | .refuse _=>some TL
def acr (o:bS):Bool:=match o.act with
 | .aU (.x .yJ)=>true
 | _=>false
def dV.nm:dV→Bool
 | .ops l=>l.any acr
 | .draw l=>l.any fun d=>match d with
  | .op _ o=>acr o
  | _=>false
 | .seq a b=>a.nm||b.nm
 | .cond _ a b=>a.nm||b.nm
 | .block _ c=>c.nm
 | .loop c=>c.nm
 | .pU _ _ a b=>a.nm||b.nm
 | _=>false
def sF (P:Program):ResultVar→Option mN
 | .tmp t=>some (.tmp (Pos.of t))
 | .cell a t=>match P.underlying t,fo P t with
  | some d,some s=>if nO d then some (.cell (Pos.of a) (some s))else some (.cell (Pos.of a) none)
  | _,_=>none
def ct (P:Program) (f:FuncId):Option jD:=match P.funcs[f]? with
 | none=>none
 | some fn => if fn.name == "runtime.NumGoroutine" then none else match fn.body with
  | none=>none
  | some c=>match fn.results.toList.mapM (sF P),iL P fn.ntmps c with
   | some rs,some ac=>some ⟨fn.ntmps,rs,ac,ac.nm⟩
   | _,_=>none
end Go.Ve
