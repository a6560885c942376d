/- Part 2: VEval, part 3: from the program's own code to the evaluator's. Definitions; no condition. -/
import Derived.Test.YteeibihhdldjfaaGreatDoorVeA
import GoSem.Extern.Table
set_option linter.unusedVariables false
set_option linter.unusedSimpArgs false
namespace Go.Ve
def FP : Value → Bool
 | .bool _ | .int _ _ | .string _ | .pointer none | .map none | .nilFunc | .nilIface => true
 | .slice none l c => l == 0 && c == 0
 | _ => false
def xn : Value → Bool
 | .agg cs => cs.toList.all FP
 | .func (.func _) a b => a.isEmpty && b.isEmpty
 | v => FP v
def nN : Operand → Option dB
 | .tmp t => some (.t (Pos.of t))
 | .const v => if xn v then some (.c v) else none
 | .func f => some (.c (.func (.func f) #[] #[]))
 | .global _ => none
def lG : TypeDesc → Bool
 | .struct _ | .array _ _ => true
 | _ => false
def ja : TypeDesc → Option Nat
 | .int _ => some 0
 | .bool => some 1
 | .string => some 2
 | _ => none
def vP : Operand → Bool
 | .const .nilIface => true
 | _ => false
def U1 : Operand → Bool
 | .const (.pointer none) => true
 | _ => false
def FQ (P : Program) (u : TypeId) : List (TypeId × Nat) := ((List.range P.types.size).filter fun t => (t == u || (match P.underlying t with | some (.struct fs) => (fs[0]?).any (·.type == u) | _ => false)) && !(P.cellsOf t == 0) && liesAt P P.depth t 1 0 u 1).map fun t => (t, P.cellsOf t)
def ej (P : Program) (t : TypeId) : Option Nat := (P.info? t).map (·.size)
def zeroOf (P : Program) (t : TypeId) : Option Value := match P.info? t with
 | some i => match i.zero with
  | some z => if xn z then some z else none
  | none => none
 | none => none
def iZ (n : Nat) (l : List Value) : List Value := match n with
 | 0 => []
 | n + 1 => l ++ iZ n l
def xZ (P : Program) : Nat → List Field → Option (List Nat)
 | _, [] => some []
 | n, f :: fs => if f.name ≠ "_" ∧ f.offset = n then
  match (P.underlying f.type).bind ja, xZ P (n + 1) fs with
  | some kc, some ks => some (kc :: ks)
  | _, _ => none
  else none
def th : Nat → List (Nat × Nat) → Nat → Bool
 | n, [], m => n == m
 | n, (o, s) :: ps, m => n == o && th (n + s) ps m
def vw (zero : List Value) (ps : List (Nat × Nat)) : Prim :=
 if th 0 ps zero.length then .cY (ps.map (·.2)) else .build zero ps
def lE (P : Program) (o : Oper) : Option (iI × List Operand) := match o.op with
 | .move x => some (.aC .move, [x])
 | .assign x => some (.aC .move, [x])
 | .pick c a b => some (.aC .pick, [c, a, b])
 | .alloc e => match zeroOf P e with
  | some z => some (.aC (.alloc e z.cells.toList), [])
  | none => none
 | .box e x => some (.aC (.box e), [x])
 | .build t parts => match P.underlying t, zeroOf P t with
  | some (.struct fs), some z =>
   if fs.toList.all (fun f => (ej P f.type).isSome) then
    match parts.toList.mapM (fun p => (fs[p.1]?).bind fun f => (ej P f.type).map fun s => (f.offset, s)) with
    | some ps => some (.aC (vw z.cells.toList ps), parts.toList.map (·.2))
    | none => none
   else none
  | some (.array _ e), some z => match ej P e with
   | some s => some (.aC (vw z.cells.toList (parts.toList.map fun p => (p.1 * s, s))), parts.toList.map (·.2))
   | none => none
  | _, _ => none
 | .buildSlice t len parts => match P.underlying t with
  | some (.slice e) => match ej P e, zeroOf P e with
   | some s, some z => if len * s ≤ 65536 && z.cells.size == s && 0 < s then some (.aC (.buildSlice e len (iZ len z.cells.toList) (parts.toList.map fun p => (p.1 * s, s))), parts.toList.map (·.2)) else none
   | _, _ => none
  | _ => none
 | .load t a => match P.underlying t, ej P t with
  | some d, some s => if lG d then some (.aC (.bL s), [a]) else some (.aC .ay, [a])
  | _, _ => none
 | .store t a v => match ej P t with
  | some s => some (.aC (.store s), [a, v])
  | none => none
 | .nilCheck x => some (.aC .nilCheck, [x])
 | .fieldAddr s x f => match P.underlying s with
  | some (.struct fs) => match fs[f]? with
   | some fl => match ej P fl.type with
    | some sz => if sz = 0 then none else some (.aC (.fieldAddr fl.offset), [x])
    | none => none
   | none => none
  | _ => none
 | .field s x f => match P.underlying s with
  | some (.struct fs) => match fs[f]? with
   | some fl => match P.underlying fl.type, ej P fl.type with
    | some d, some sz => if lG d then some (.aC (.abv fl.offset sz), [x]) else some (.aC (.Kw fl.offset), [x])
    | _, _ => none
   | none => none
  | _ => none
 | .indexAddr t x i => match P.underlying t with
  | some (.array len e) => match ej P e with
   | some s => some (.aC (.abw len s), [x, i])
   | none => none
  | some (.slice e) => match ej P e with
   | some s => some (.aC (.cS s), [x, i])
   | none => none
  | _ => none
 | .index t x i => match P.underlying t with
  | some (.array len e) => match P.underlying e, ej P e with
   | some d, some s => if lG d then some (.aC (.IQ len s), [x, i]) else if s = 1 then some (.aC (.zI len), [x, i]) else none
   | _, _ => none
  | some .string => some (.aC .Sk, [x, i])
  | _ => none
 | .slice t x lo hi mx => match P.underlying t with
  | some (.slice e) => match ej P e with
   | some s => if 0 < s && (hi.isSome || !mx.isSome) then some (.aC (.slice s lo.isSome hi.isSome mx.isSome), x :: (lo.toList ++ hi.toList ++ mx.toList)) else none
   | none => none
  | some (.array n e) => match ej P e with
   | some s => if hi.isSome || !mx.isSome then some (.aC (.Sm n s lo.isSome hi.isSome mx.isSome), x :: (lo.toList ++ hi.toList ++ mx.toList)) else none
   | none => none
  | some .string => if mx.isSome then none else some (.aC (.x (.sub lo.isSome hi.isSome)), x :: (lo.toList ++ hi.toList))
  | _ => none
 | .binOp op t x y _ => match P.underlying t with
  | some (.int _) => some (.aC (.aD op), [x, y])
  | some .string => match op with
   | .eql | .neq => some (.aC (.Sn op), [x, y])
   | .add => some (.aC (.x .cat), [x, y])
   | .lss | .leq | .gtr | .geq => some (.aC (.x (.abl op)), [x, y])
   | _ => none
  | some .bool => match op with
   | .eql => some (.aC (.EI false), [x, y])
   | .neq => some (.aC (.EI true), [x, y])
   | _ => none
  | some (.struct fs) => if !P.stoodInHeld t && !P.eqGuardType P.depth t then match xZ P 0 fs.toList, op with
   | some ks, .eql => some (.aC (.zR false ks), [x, y])
   | some ks, .neq => some (.aC (.zR true ks), [x, y])
   | _, _ => none else none
  | some (.pointer te) => if U1 x || U1 y then match op with
   | .eql => some (.aC (.oI 0 false), [x, y])
   | .neq => some (.aC (.oI 0 true), [x, y])
   | _ => none else match P.info? te, op with
   | some _, .eql => some (.aC (.x (.Sj false)), [x, y])
   | some _, .neq => some (.aC (.x (.Sj true)), [x, y])
   | _, _ => none
  | some (.slice _) => match op with
   | .eql => some (.aC (.oI 1 false), [x, y])
   | .neq => some (.aC (.oI 1 true), [x, y])
   | _ => none
  | some (.map _ _) => match op with
   | .eql => some (.aC (.oI 2 false), [x, y])
   | .neq => some (.aC (.oI 2 true), [x, y])
   | _ => none
  | some (.func _ _ _) => match op with
   | .eql => some (.aC (.oI 3 false), [x, y])
   | .neq => some (.aC (.oI 3 true), [x, y])
   | _ => none
  | some (.interface _) => if vP x || vP y then match op with
   | .eql => some (.aC (.oI 4 false), [x, y])
   | .neq => some (.aC (.oI 4 true), [x, y])
   | _ => none else none
  | _ => none
 | .unOp op _ x => match op with
  | .neg => some (.aC .neg, [x])
  | .not => some (.aC .eE, [x])
  | _ => none
 | .convert src dst x => match P.underlying src, P.underlying dst with
  | some (.int _), some (.int k) => some (.aC (.conv k), [x])
  | some (.pointer t), some .unsafePointer => match P.info? t with
   | some i => if i.size = 0 then none else some (.aC (.x .abo), [x])
   | none => none
  | some .unsafePointer, some (.pointer u) => match P.info? u with
   | some _ => some (.aC (.x (.abp (FQ P u))), [x])
   | none => none
  | _, _ => none
 | .makeInterface t x => match P.underlying t with
  | some (.interface _) | none => none
  | _ => some (.aC (.I7 t), [x])
 | .makeFunc fn first bI => match fn with
  | .func f => some (.aC (.uR (.func f) first.size), first.toList ++ bI.toList)
  | .method s => some (.aC (.uR (.method s) first.size), first.toList ++ bI.toList)
  | _ => none
 | .makeMap _ r => match r with
  | none => some (.aC .mkMap, [])
  | some _ => none
 | .makeSlice t l c => match P.underlying t with
  | some (.slice e) => match P.info? e, zeroOf P e with
   | some i, some z => if 0 < i.size && i.bytes ≤ 65536 && z.cells.size == i.size then some (.aC (.mkSlice e i.size z.cells.toList), [l, c]) else none
   | _, _ => none
  | _ => none
 | .lookup t m x ok => match P.underlying t with
  | some (.map kt e) => match (P.underlying kt).bind ja, zeroOf P e with
   | some kc, some z => some (.aC (.lookup kc z ok), [m, x])
   | _, _ => none
  | _ => none
 | .mapUpdate t m x v | .insert t m x v => match P.underlying t with
  | some (.map kt _) => match (P.underlying kt).bind ja with
   | some kc => some (.aC (.oB kc), [m, x, v])
   | none => none
  | _ => none
 | .extract x i => some (.aC (.extract i), [x])
 | .typeAssert x _ asserted ok => match P.underlying asserted, zeroOf P asserted with
  | some (.interface _), _ => none
  | some _, some z => if ok then some (.aC (.Sp asserted z), [x]) else none
  | _, _ => none
 | .range t x => match P.underlying t with
  | some .string => some (.aC .Kx, [x])
  | some (.map _ _) => some (.aC (.x .JB), [x])
  | _ => none
 | .next x isString => if isString then some (.aC .Ky, [x]) else some (.aC (.x .zP), [x])
 | .entry x => some (.aC (.x .entry), [x])
 | .call c => match c.callee with
  | .value (.func g) => match P.funcs[g]? with
   | some fn => if fn.name != "runtime.NumGoroutine" && fn.body.isSome then some (.call g, c.args.toList) else if fn.body.isNone && (Extern.findNext fn).isNone then
    if fn.name == "internal/abi.NoEscape" then some (.aC (.x .same), c.args.toList)
    else if fn.name == "internal/bytealg.CountString" then some (.aC (.x .abt), c.args.toList)
    else if fn.name == "internal/bytealg.IndexByteString" then some (.aC (.x .abu), c.args.toList)
    else none
    else none
   | none => none
  | .value f => some (.dyn, f :: c.args.toList)
  | .invoke _ _ => none
  | .builtin b => match b with
   | .len => match c.args.toList, c.argTypes[0]? with
    | [x], some t => match P.underlying t with
     | some .string => some (.aC .abx, [x])
     | some (.slice _) => some (.aC .di, [x])
     | some (.map _ _) => some (.aC .aby, [x])
     | some (.array n _) => some (.aC (.abz n), [x])
     | _ => none
    | _, _ => none
   | .cap => match c.args.toList, c.argTypes[0]? with
    | [x], some t => match P.underlying t with
     | some (.slice _) => some (.aC (.x .abm), [x])
     | _ => none
    | _, _ => none
   | .append => match c.args.toList, c.argTypes[0]?, c.argTypes[1]? with
    | [s, x], some t, some u => match P.underlying t, P.underlying u with
     | some (.slice e), some (.slice _) => match P.info? e, zeroOf P e with
      | some i, some z => if 0 < i.size && i.bytes ≤ 65536 && z.cells.size == i.size then some (.aC (.append e i.size z.cells.toList), [s, x]) else none
      | _, _ => none
     | some (.slice e), some .string => match P.info? e, zeroOf P e with
      | some i, some z => if i.size == 1 && i.bytes ≤ 65536 && z.cells.size == 1 then some (.aC (.x (.abn e z.cells.toList)), [s, x]) else none
      | _, _ => none
     | _, _ => none
    | _, _, _ => none
   | .copy => match c.args.toList, c.argTypes[0]? with
    | [d, s], some t => match P.underlying t with
     | some (.slice e) => match ej P e with
      | some sz => some (.aC (.copy sz), [d, s])
      | none => none
     | _ => none
    | _, _ => none
   | .max => match c.args.toList with
    | [x, y] => some (.aC .abA, [x, y])
    | _ => none
   | .min => match c.args.toList with
    | [x, y] => some (.aC .abB, [x, y])
    | _ => none
   | .recover => match c.args.toList with
    | [] => some (.recover, [])
    | _ => none
   | .unsafeSliceData => match c.args.toList with
    | [x] => some (.aC (.x .abq), [x])
    | _ => none
   | .unsafeString => match c.args.toList, c.argTypes[0]? with
    | [p, n], some t => match P.underlying t with
     | some (.pointer u) => if P.cellsOf u = 1 then some (.aC (.x (.abr u)), [p, n]) else none
     | _ => none
    | _, _ => none
   | .panic => match c.args.toList with
    | [x] => some (.panic, [x])
    | _ => none
   | _ => none
 | .panic x => some (.panic, [x])
 | .defer c => match c.callee with
  | .value f => some (.defer, f :: c.args.toList)
  | _ => none
 | _ => none
def Prim.tA : Prim → Bool
 | .store _ | .append _ _ _ | .copy _ | .oB _ | .Kx | .Ky | .mkMap | .mkSlice _ _ _ | .x _ => true
 | _ => false
def iI.tA : iI → Bool
 | .aC p => p.tA
 | _ => true
def Aw (P : Program) (o : Oper) : iI × List Operand := match lE P o with
 | some (a, xs) => match xs.mapM nN with
  | some _ => (a, xs)
  | none => (.aC (.x .bad), [])
 | none => (.aC (.x .bad), [])
def mQ (P : Program) (nt : Nat) (ops : Array Oper) (o : Oper) : Option bh :=
 match Aw P o with
 | (a, xs) =>
  match xs.mapM nN with
  | none => none
  | some args =>
   let dst? : Option (Option Pos) := match o.dst with
    | none => some none
    | some d => if d < nt then some (some (Pos.of d)) else none
   match dst? with
   | none => none
   | some dst => match o.guard with
    | none => some ⟨dst, a, args, none⟩
    | some (g, want) => match (ops[g]?).bind (·.dst) with
     | some t => some ⟨dst, a, args, some (Pos.of t, want)⟩
     | none => none
def Ay (P : Program) (nt : Nat) (ops : Array Oper) : Option (List bh) := ops.toList.mapM (mQ P nt ops)
def U2 (o : Oper) : List Nat := (o.after.toList.filter (Region.binds .any ·)).map (·.on)
def ad8 : dB → Option Pos
 | .t p => some p
 | .c _ => none
def bh.reads (a : bh) : List Pos := a.args.filterMap ad8 ++ (match a.guard with
 | some (p, _) => [p]
 | none => [])
def FI (l : List Pos) (p : Pos) : Bool := l.any p.beq
def eI (ops : Array Oper) (i : Nat) : List Nat := match ops[i]? with
 | some o => U2 o
 | none => []
def Mu (ops : Array Oper) (as : Array bh) (j : Nat) : Bool := match (as[j]?).bind (·.dst) with
 | none => false
 | some d => (List.range ops.size).any fun i => match as[i]? with
  | some a => FI a.reads d && !(eI ops i).contains j
  | none => false
def qj (ops : Array Oper) (as : Array bh) (j : Nat) : Bool := match as[j]? with
 | some a => a.act.tA || a.dst.isNone || Mu ops as j
 | none => true
def U3 (ops : Array Oper) (act : Nat → Bool) (b : Bool) (done : List Nat) : Option Nat :=
 (List.range ops.size).find? fun i => !done.contains i && (act i == b) && (eI ops i).all done.contains
def Mz (ops : Array Oper) (act : Nat → Bool) : Nat → List Nat → List Nat
 | 0, _ => []
 | f + 1, done => match U3 ops act false done with
  | some i => i :: Mz ops act f (i :: done)
  | none => match U3 ops act true done with
   | some i => i :: Mz ops act f (i :: done)
   | none => []
def tB (ops : Array Oper) : List Nat → List Nat → List Nat
 | S, [] => S
 | S, j :: done => if S.contains j then tB ops (eI ops j ++ S) done else tB ops S done
def Bi (as : Array bh) : List Nat → Option (List iJ)
 | [] => some []
 | j :: l => match as[j]?, Bi as l with
  | some a, some r => some (.iX j a :: r)
  | _, _ => none
def tG (ops : Array Oper) (as : Array bh) (done dC : List Nat) : List Nat → Option (List iJ)
 | [] => if (List.range ops.size).all done.contains then some [] else none
 | i :: order => match as[i]? with
  | none => none
  | some a => if !done.contains i && (eI ops i).all done.contains then
   if qj ops as i then
    if (List.range ops.size).all (fun j => done.contains j || j == i || !(eI ops j).all done.contains) then
     match Bi as (dC.filter fun j => !(tB ops (eI ops i) done).contains j), tG ops as (i :: done) (dC.filter fun j => !(tB ops (eI ops i) done).contains j) order with
     | some cs, some r => some (.op i a :: (cs ++ r))
     | _, _ => none
    else none
   else (tG ops as (i :: done) (i :: dC) order).map (iJ.op i a :: ·)
   else none
def rY (ops : Array Oper) (as : Array bh) : Bool :=
 (List.range ops.size).all fun j => match (as[j]?).bind (·.dst) with
  | none => true
  | some d => (List.range ops.size).all fun i => match as[i]? with
   | none => true
   | some a => (i == j || (match a.dst with | some d' => !d.beq d' | none => true)) && (!FI a.reads d || i == j || (eI ops i).contains j || (eI ops j).contains i)
def K3 (ops : Array Oper) (as : Array bh) : Option (List iJ) :=
 if rY ops as then tG ops as [] [] (Mz ops (qj ops as) ops.size []) else none
def MA : c7 := .ops [⟨none, .aC (.x .bad), [], none⟩]
def fQ (P : Program) (nt : Nat) : Code → Option c7
 | .skip => some .skip
 | .label _ => some .skip
 | .region _ ops false => (Ay P nt ops).map .ops
 | .region _ ops true => match Ay P nt ops with
  | some l => match K3 ops l.toArray with
   | some d => some (.draw d)
   | none => some MA
  | none => none
 | .seq a b => match fQ P nt a, fQ P nt b with
  | some x, some y => some (.seq x y)
  | _, _ => none
 | .cond c a b => match nN c, fQ P nt a, fQ P nt b with
  | some c, some x, some y => some (.cond c x y)
  | _, _, _ => none
 | .block id c => (fQ P nt c).map (.block id)
 | .loop c => (fQ P nt c).map .loop
 | .scope c => fQ P nt c
 | .rangeFunc f ps a b => match nN f, fQ P nt a, fQ P nt b with
  | some f', some x, some y => if ps.toList.all (· < nt) then some (.l4 f' (ps.toList.map Pos.of) x y) else none
  | _, _, _ => none
 | .exit id => some (.exit id)
 | .ret => some .ret
 | .goto _ => some MA
 | .refuse _ => some MA
def U4 (o : bh) : Bool := match o.act with
 | .aC (.x .zP) => true
 | _ => false
def c7.nm : c7 → Bool
 | .ops l => l.any U4
 | .draw l => l.any fun d => match d with
  | .op _ o => U4 o
  | _ => false
 | .seq a b => a.nm || b.nm
 | .cond _ a b => a.nm || b.nm
 | .block _ c => c.nm
 | .loop c => c.nm
 | .l4 _ _ a b => a.nm || b.nm
 | _ => false
def qb (P : Program) : ResultVar → Option kQ
 | .tmp t => some (.tmp (Pos.of t))
 | .cell a t => match P.underlying t, ej P t with
  | some d, some s => if lG d then some (.cell (Pos.of a) (some s)) else some (.cell (Pos.of a) none)
  | _, _ => none
def bW (P : Program) (f : FuncId) : Option gn := match P.funcs[f]? with
 | none => none
 | some fn => if fn.name == "runtime.NumGoroutine" then none else match fn.body with
  | none => none
  | some c => match fn.results.toList.mapM (qb P), fQ P fn.ntmps c with
   | some rs, some ac => some ⟨fn.ntmps, rs, ac, ac.nm⟩
   | _, _ => none
end Go.Ve
