/- Part 2: VEval, part 3: from the program's own code to the evaluator's. Definitions; no condition. -/
import Derived.Test.YteeibihhdldjfaaGreatDoorVeA
import GoSem.Extern.Table
set_option linter.unusedVariables false
set_option linter.unusedSimpArgs false
namespace Go.Ve
def okC1 : Value → Bool
  | .bool _ | .int _ _ | .string _ | .pointer none | .map none | .nilFunc | .nilIface => true
  | .slice none l c => l == 0 && c == 0
  | _ => false
def okC : Value → Bool
  | .agg cs => cs.toList.all okC1
  | .func (.func _) a b => a.isEmpty && b.isEmpty
  | v => okC1 v
def cOpd : Operand → Option Opd
  | .tmp t => some (.t (Pos.of t))
  | .const v => if okC v then some (.c v) else none
  | .func f => some (.c (.func (.func f) #[] #[]))
  | .global _ => none
def isAggD : TypeDesc → Bool
  | .struct _ | .array _ _ => true
  | _ => false
def kcOf : TypeDesc → Option Nat
  | .int _ => some 0
  | .bool => some 1
  | .string => some 2
  | _ => none
def isConstNil : Operand → Bool
  | .const .nilIface => true
  | _ => false
def isConstNilP : Operand → Bool
  | .const (.pointer none) => true
  | _ => false
def liesIn (P : Program) (u : TypeId) : List (TypeId × Nat) := ((List.range P.types.size).filter fun t => (t == u || (match P.underlying t with | some (.struct fs) => (fs[0]?).any (·.type == u) | _ => false)) && !(P.cellsOf t == 0) && liesAt P P.depth t 1 0 u 1).map fun t => (t, P.cellsOf t)
def szOf (P : Program) (t : TypeId) : Option Nat := (P.info? t).map (·.size)
def zeroOf (P : Program) (t : TypeId) : Option Value := match P.info? t with
  | some i => match i.zero with
    | some z => if okC z then some z else none
    | none => none
  | none => none
def repC (n : Nat) (l : List Value) : List Value := match n with
  | 0 => []
  | n + 1 => l ++ repC n l
def flatFields (P : Program) : Nat → List Field → Option (List Nat)
  | _, [] => some []
  | n, f :: fs => if f.name ≠ "_" ∧ f.offset = n then
      match (P.underlying f.type).bind kcOf, flatFields P (n + 1) fs with
      | some kc, some ks => some (kc :: ks)
      | _, _ => none
    else none
def contig : Nat → List (Nat × Nat) → Nat → Bool
  | n, [], m => n == m
  | n, (o, s) :: ps, m => n == o && contig (n + s) ps m
def mkBuild (zero : List Value) (ps : List (Nat × Nat)) : Prim :=
  if contig 0 ps zero.length then .buildAll (ps.map (·.2)) else .build zero ps
def cOp (P : Program) (o : Oper) : Option (Act1 × List Operand) := match o.op with
  | .move x => some (.prim .move, [x])
  | .assign x => some (.prim .move, [x])
  | .pick c a b => some (.prim .pick, [c, a, b])
  | .alloc e => match zeroOf P e with
    | some z => some (.prim (.alloc e z.cells.toList), [])
    | none => none
  | .box e x => some (.prim (.box e), [x])
  | .build t parts => match P.underlying t, zeroOf P t with
    | some (.struct fs), some z =>
      if fs.toList.all (fun f => (szOf P f.type).isSome) then
        match parts.toList.mapM (fun p => (fs[p.1]?).bind fun f => (szOf P f.type).map fun s => (f.offset, s)) with
        | some ps => some (.prim (mkBuild z.cells.toList ps), parts.toList.map (·.2))
        | none => none
      else none
    | some (.array _ e), some z => match szOf P e with
      | some s => some (.prim (mkBuild z.cells.toList (parts.toList.map fun p => (p.1 * s, s))), parts.toList.map (·.2))
      | none => none
    | _, _ => none
  | .buildSlice t len parts => match P.underlying t with
    | some (.slice e) => match szOf P e, zeroOf P e with
      | some s, some z => if len * s ≤ 65536 && z.cells.size == s && 0 < s then some (.prim (.buildSlice e len (repC len z.cells.toList) (parts.toList.map fun p => (p.1 * s, s))), parts.toList.map (·.2)) else none
      | _, _ => none
    | _ => none
  | .load t a => match P.underlying t, szOf P t with
    | some d, some s => if isAggD d then some (.prim (.loadN s), [a]) else some (.prim .load1, [a])
    | _, _ => none
  | .store t a v => match szOf P t with
    | some s => some (.prim (.store s), [a, v])
    | none => none
  | .nilCheck x => some (.prim .nilCheck, [x])
  | .fieldAddr s x f => match P.underlying s with
    | some (.struct fs) => match fs[f]? with
      | some fl => match szOf P fl.type with
        | some sz => if sz = 0 then none else some (.prim (.fieldAddr fl.offset), [x])
        | none => none
      | none => none
    | _ => none
  | .field s x f => match P.underlying s with
    | some (.struct fs) => match fs[f]? with
      | some fl => match P.underlying fl.type, szOf P fl.type with
        | some d, some sz => if isAggD d then some (.prim (.fieldN fl.offset sz), [x]) else some (.prim (.field1 fl.offset), [x])
        | _, _ => none
      | none => none
    | _ => none
  | .indexAddr t x i => match P.underlying t with
    | some (.array len e) => match szOf P e with
      | some s => some (.prim (.idxArr len s), [x, i])
      | none => none
    | some (.slice e) => match szOf P e with
      | some s => some (.prim (.idxSlice s), [x, i])
      | none => none
    | _ => none
  | .index t x i => match P.underlying t with
    | some (.array len e) => match P.underlying e, szOf P e with
      | some d, some s => if isAggD d then some (.prim (.indexN len s), [x, i]) else if s = 1 then some (.prim (.index1 len), [x, i]) else none
      | _, _ => none
    | some .string => some (.prim .indexS, [x, i])
    | _ => none
  | .slice t x lo hi mx => match P.underlying t with
    | some (.slice e) => match szOf P e with
      | some s => if 0 < s && (hi.isSome || !mx.isSome) then some (.prim (.slice s lo.isSome hi.isSome mx.isSome), x :: (lo.toList ++ hi.toList ++ mx.toList)) else none
      | none => none
    | some (.array n e) => match szOf P e with
      | some s => if hi.isSome || !mx.isSome then some (.prim (.sliceA n s lo.isSome hi.isSome mx.isSome), x :: (lo.toList ++ hi.toList ++ mx.toList)) else none
      | none => none
    | some .string => if mx.isSome then none else some (.prim (.x (.sub lo.isSome hi.isSome)), x :: (lo.toList ++ hi.toList))
    | _ => none
  | .binOp op t x y _ => match P.underlying t with
    | some (.int _) => some (.prim (.iop op), [x, y])
    | some .string => match op with
      | .eql | .neq => some (.prim (.sop op), [x, y])
      | .add => some (.prim (.x .cat), [x, y])
      | .lss | .leq | .gtr | .geq => some (.prim (.x (.scmp op)), [x, y])
      | _ => none
    | some .bool => match op with
      | .eql => some (.prim (.eqB false), [x, y])
      | .neq => some (.prim (.eqB true), [x, y])
      | _ => none
    | some (.struct fs) => if !P.stoodInHeld t && !P.eqGuardType P.depth t then match flatFields P 0 fs.toList, op with
      | some ks, .eql => some (.prim (.eqAgg false ks), [x, y])
      | some ks, .neq => some (.prim (.eqAgg true ks), [x, y])
      | _, _ => none else none
    | some (.pointer te) => if isConstNilP x || isConstNilP y then match op with
      | .eql => some (.prim (.eqNil 0 false), [x, y])
      | .neq => some (.prim (.eqNil 0 true), [x, y])
      | _ => none else match P.info? te, op with
      | some _, .eql => some (.prim (.x (.eqPtr false)), [x, y])
      | some _, .neq => some (.prim (.x (.eqPtr true)), [x, y])
      | _, _ => none
    | some (.slice _) => match op with
      | .eql => some (.prim (.eqNil 1 false), [x, y])
      | .neq => some (.prim (.eqNil 1 true), [x, y])
      | _ => none
    | some (.map _ _) => match op with
      | .eql => some (.prim (.eqNil 2 false), [x, y])
      | .neq => some (.prim (.eqNil 2 true), [x, y])
      | _ => none
    | some (.func _ _ _) => match op with
      | .eql => some (.prim (.eqNil 3 false), [x, y])
      | .neq => some (.prim (.eqNil 3 true), [x, y])
      | _ => none
    | some (.interface _) => if isConstNil x || isConstNil y then match op with
      | .eql => some (.prim (.eqNil 4 false), [x, y])
      | .neq => some (.prim (.eqNil 4 true), [x, y])
      | _ => none else none
    | _ => none
  | .unOp op _ x => match op with
    | .neg => some (.prim .neg, [x])
    | .not => some (.prim .notB, [x])
    | _ => none
  | .convert src dst x => match P.underlying src, P.underlying dst with
    | some (.int _), some (.int k) => some (.prim (.conv k), [x])
    | some (.pointer t), some .unsafePointer => match P.info? t with
      | some i => if i.size = 0 then none else some (.prim (.x .toUns), [x])
      | none => none
    | some .unsafePointer, some (.pointer u) => match P.info? u with
      | some _ => some (.prim (.x (.ofUns (liesIn P u))), [x])
      | none => none
    | _, _ => none
  | .makeInterface t x => match P.underlying t with
    | some (.interface _) | none => none
    | _ => some (.prim (.mkIface t), [x])
  | .makeFunc fn first capt => match fn with
    | .func f => some (.prim (.mkFunc (.func f) first.size), first.toList ++ capt.toList)
    | .method s => some (.prim (.mkFunc (.method s) first.size), first.toList ++ capt.toList)
    | _ => none
  | .makeMap _ r => match r with
    | none => some (.prim .mkMap, [])
    | some _ => none
  | .makeSlice t l c => match P.underlying t with
    | some (.slice e) => match P.info? e, zeroOf P e with
      | some i, some z => if 0 < i.size && i.bytes ≤ 65536 && z.cells.size == i.size then some (.prim (.mkSlice e i.size z.cells.toList), [l, c]) else none
      | _, _ => none
    | _ => none
  | .lookup t m x ok => match P.underlying t with
    | some (.map kt e) => match (P.underlying kt).bind kcOf, zeroOf P e with
      | some kc, some z => some (.prim (.lookup kc z ok), [m, x])
      | _, _ => none
    | _ => none
  | .mapUpdate t m x v | .insert t m x v => match P.underlying t with
    | some (.map kt _) => match (P.underlying kt).bind kcOf with
      | some kc => some (.prim (.mapUpd kc), [m, x, v])
      | none => none
    | _ => none
  | .extract x i => some (.prim (.extract i), [x])
  | .typeAssert x _ asserted ok => match P.underlying asserted, zeroOf P asserted with
    | some (.interface _), _ => none
    | some _, some z => if ok then some (.prim (.assertTo asserted z), [x]) else none
    | _, _ => none
  | .range t x => match P.underlying t with
    | some .string => some (.prim .rangeS, [x])
    | some (.map _ _) => some (.prim (.x .rangeM), [x])
    | _ => none
  | .next x isString => if isString then some (.prim .nextS, [x]) else some (.prim (.x .nextM), [x])
  | .entry x => some (.prim (.x .entry), [x])
  | .call c => match c.callee with
    | .value (.func g) => match P.funcs[g]? with
      | some fn => if fn.name != "runtime.NumGoroutine" && fn.body.isSome then some (.call g, c.args.toList) else if fn.body.isNone && (Extern.findNext fn).isNone then
          if fn.name == "internal/abi.NoEscape" then some (.prim (.x .same), c.args.toList)
          else if fn.name == "internal/bytealg.CountString" then some (.prim (.x .countS), c.args.toList)
          else if fn.name == "internal/bytealg.IndexByteString" then some (.prim (.x .idxS), c.args.toList)
          else none
        else none
      | none => none
    | .value f => some (.dyn, f :: c.args.toList)
    | .invoke _ _ => none
    | .builtin b => match b with
      | .len => match c.args.toList, c.argTypes[0]? with
        | [x], some t => match P.underlying t with
          | some .string => some (.prim .lenStr, [x])
          | some (.slice _) => some (.prim .lenSl, [x])
          | some (.map _ _) => some (.prim .lenMap, [x])
          | some (.array n _) => some (.prim (.lenArr n), [x])
          | _ => none
        | _, _ => none
      | .cap => match c.args.toList, c.argTypes[0]? with
        | [x], some t => match P.underlying t with
          | some (.slice _) => some (.prim (.x .capS), [x])
          | _ => none
        | _, _ => none
      | .append => match c.args.toList, c.argTypes[0]?, c.argTypes[1]? with
        | [s, x], some t, some u => match P.underlying t, P.underlying u with
          | some (.slice e), some (.slice _) => match P.info? e, zeroOf P e with
            | some i, some z => if 0 < i.size && i.bytes ≤ 65536 && z.cells.size == i.size then some (.prim (.append e i.size z.cells.toList), [s, x]) else none
            | _, _ => none
          | some (.slice e), some .string => match P.info? e, zeroOf P e with
            | some i, some z => if i.size == 1 && i.bytes ≤ 65536 && z.cells.size == 1 then some (.prim (.x (.appStr e z.cells.toList)), [s, x]) else none
            | _, _ => none
          | _, _ => none
        | _, _, _ => none
      | .copy => match c.args.toList, c.argTypes[0]? with
        | [d, s], some t => match P.underlying t with
          | some (.slice e) => match szOf P e with
            | some sz => some (.prim (.copy sz), [d, s])
            | none => none
          | _ => none
        | _, _ => none
      | .max => match c.args.toList with
        | [x, y] => some (.prim .maxI, [x, y])
        | _ => none
      | .min => match c.args.toList with
        | [x, y] => some (.prim .minI, [x, y])
        | _ => none
      | .recover => match c.args.toList with
        | [] => some (.recover, [])
        | _ => none
      | .unsafeSliceData => match c.args.toList with
        | [x] => some (.prim (.x .slData), [x])
        | _ => none
      | .unsafeString => match c.args.toList, c.argTypes[0]? with
        | [p, n], some t => match P.underlying t with
          | some (.pointer u) => if P.cellsOf u = 1 then some (.prim (.x (.unsStr u)), [p, n]) else none
          | _ => none
        | _, _ => none
      | .panic => match c.args.toList with
        | [x] => some (.panic, [x])
        | _ => none
      | _ => none
  | .panic x => some (.panic, [x])
  | .defer c => match c.callee with
    | .value f => some (.defer, f :: c.args.toList)
    | _ => none
  | _ => none
def Prim.acts : Prim → Bool
  | .store _ | .append _ _ _ | .copy _ | .mapUpd _ | .rangeS | .nextS | .mkMap | .mkSlice _ _ _ | .x _ => true
  | _ => false
def Act1.acts : Act1 → Bool
  | .prim p => p.acts
  | _ => true
def cOpX (P : Program) (o : Oper) : Act1 × List Operand := match cOp P o with
  | some (a, xs) => match xs.mapM cOpd with
    | some _ => (a, xs)
    | none => (.prim (.x .bad), [])
  | none => (.prim (.x .bad), [])
def cOper (P : Program) (nt : Nat) (ops : Array Oper) (o : Oper) : Option AOp :=
  match cOpX P o with
  | (a, xs) =>
    match xs.mapM cOpd with
    | none => none
    | some args =>
      let dst? : Option (Option Pos) := match o.dst with
        | none => some none
        | some d => if d < nt then some (some (Pos.of d)) else none
      match dst? with
      | none => none
      | some dst => match o.guard with
        | none => some ⟨dst, a, args, none⟩
        | some (g, want) => match (ops[g]?).bind (·.dst) with
          | some t => some ⟨dst, a, args, some (Pos.of t, want)⟩
          | none => none
def cOpers (P : Program) (nt : Nat) (ops : Array Oper) : Option (List AOp) := ops.toList.mapM (cOper P nt ops)
def befs (o : Oper) : List Nat := (o.after.toList.filter (Region.binds .any ·)).map (·.on)
def opdPos : Opd → Option Pos
  | .t p => some p
  | .c _ => none
def AOp.reads (a : AOp) : List Pos := a.args.filterMap opdPos ++ (match a.guard with
  | some (p, _) => [p]
  | none => [])
def hasPos (l : List Pos) (p : Pos) : Bool := l.any p.beq
def befsAt (ops : Array Oper) (i : Nat) : List Nat := match ops[i]? with
  | some o => befs o
  | none => []
def antiAt (ops : Array Oper) (as : Array AOp) (j : Nat) : Bool := match (as[j]?).bind (·.dst) with
  | none => false
  | some d => (List.range ops.size).any fun i => match as[i]? with
    | some a => hasPos a.reads d && !(befsAt ops i).contains j
    | none => false
def actAt (ops : Array Oper) (as : Array AOp) (j : Nat) : Bool := match as[j]? with
  | some a => a.act.acts || a.dst.isNone || antiAt ops as j
  | none => true
def nextIn (ops : Array Oper) (act : Nat → Bool) (b : Bool) (done : List Nat) : Option Nat :=
  (List.range ops.size).find? fun i => !done.contains i && (act i == b) && (befsAt ops i).all done.contains
def orderF (ops : Array Oper) (act : Nat → Bool) : Nat → List Nat → List Nat
  | 0, _ => []
  | f + 1, done => match nextIn ops act false done with
    | some i => i :: orderF ops act f (i :: done)
    | none => match nextIn ops act true done with
      | some i => i :: orderF ops act f (i :: done)
      | none => []
def closeF (ops : Array Oper) : List Nat → List Nat → List Nat
  | S, [] => S
  | S, j :: done => if S.contains j then closeF ops (befsAt ops j ++ S) done else closeF ops S done
def chksOf (as : Array AOp) : List Nat → Option (List DOp)
  | [] => some []
  | j :: l => match as[j]?, chksOf as l with
    | some a, some r => some (.chk j a :: r)
    | _, _ => none
def mkDraw (ops : Array Oper) (as : Array AOp) (done pend : List Nat) : List Nat → Option (List DOp)
  | [] => if (List.range ops.size).all done.contains then some [] else none
  | i :: order => match as[i]? with
    | none => none
    | some a => if !done.contains i && (befsAt ops i).all done.contains then
        if actAt ops as i then
          if (List.range ops.size).all (fun j => done.contains j || j == i || !(befsAt ops j).all done.contains) then
            match chksOf as (pend.filter fun j => !(closeF ops (befsAt ops i) done).contains j), mkDraw ops as (i :: done) (pend.filter fun j => !(closeF ops (befsAt ops i) done).contains j) order with
            | some cs, some r => some (.op i a :: (cs ++ r))
            | _, _ => none
          else none
        else (mkDraw ops as (i :: done) (i :: pend) order).map (DOp.op i a :: ·)
      else none
def slotsOk (ops : Array Oper) (as : Array AOp) : Bool :=
  (List.range ops.size).all fun j => match (as[j]?).bind (·.dst) with
    | none => true
    | some d => (List.range ops.size).all fun i => match as[i]? with
      | none => true
      | some a => (i == j || (match a.dst with | some d' => !d.beq d' | none => true)) && (!hasPos a.reads d || i == j || (befsAt ops i).contains j || (befsAt ops j).contains i)
def drawOf (ops : Array Oper) (as : Array AOp) : Option (List DOp) :=
  if slotsOk ops as then mkDraw ops as [] [] (orderF ops (actAt ops as) ops.size []) else none
def badCode : ACode := .ops [⟨none, .prim (.x .bad), [], none⟩]
def cCode (P : Program) (nt : Nat) : Code → Option ACode
  | .skip => some .skip
  | .label _ => some .skip
  | .region _ ops false => (cOpers P nt ops).map .ops
  | .region _ ops true => match cOpers P nt ops with
    | some l => match drawOf ops l.toArray with
      | some d => some (.draw d)
      | none => some badCode
    | none => none
  | .seq a b => match cCode P nt a, cCode P nt b with
    | some x, some y => some (.seq x y)
    | _, _ => none
  | .cond c a b => match cOpd c, cCode P nt a, cCode P nt b with
    | some c, some x, some y => some (.cond c x y)
    | _, _, _ => none
  | .block id c => (cCode P nt c).map (.block id)
  | .loop c => (cCode P nt c).map .loop
  | .scope c => cCode P nt c
  | .rangeFunc f ps a b => match cOpd f, cCode P nt a, cCode P nt b with
    | some f', some x, some y => if ps.toList.all (· < nt) then some (.rangeF f' (ps.toList.map Pos.of) x y) else none
    | _, _, _ => none
  | .exit id => some (.exit id)
  | .ret => some .ret
  | .goto _ => some badCode
  | .refuse _ => some badCode
def isNM (o : AOp) : Bool := match o.act with
  | .prim (.x .nextM) => true
  | _ => false
def ACode.nm : ACode → Bool
  | .ops l => l.any isNM
  | .draw l => l.any fun d => match d with
    | .op _ o => isNM o
    | _ => false
  | .seq a b => a.nm || b.nm
  | .cond _ a b => a.nm || b.nm
  | .block _ c => c.nm
  | .loop c => c.nm
  | .rangeF _ _ a b => a.nm || b.nm
  | _ => false
def cRes (P : Program) : ResultVar → Option ARes
  | .tmp t => some (.tmp (Pos.of t))
  | .cell a t => match P.underlying t, szOf P t with
    | some d, some s => if isAggD d then some (.cell (Pos.of a) (some s)) else some (.cell (Pos.of a) none)
    | _, _ => none
def cFn (P : Program) (f : FuncId) : Option AFn := match P.funcs[f]? with
  | none => none
  | some fn => if fn.name == "runtime.NumGoroutine" then none else match fn.body with
    | none => none
    | some c => match fn.results.toList.mapM (cRes P), cCode P fn.ntmps c with
      | some rs, some ac => some ⟨fn.ntmps, rs, ac, ac.nm⟩
      | _, _ => none
end Go.Ve
