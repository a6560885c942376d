/- Part 2: VEval, part 3: from the program's own code to the evaluator's. Definitions; no condition. -/
import Derived.Test.YteeibihhdldjfaaGreatDoorVeA
import GoSem.Extern.Table
set_option linter.unusedVariables false
set_option linter.unusedSimpArgs false
namespace Go.Ve
def F7 : Value → Bool
 | .bool _ | .int _ _ | .string _ | .pointer none | .map none | .nilFunc | .nilIface => true
 | .slice none l c => l == 0 && c == 0
 | _ => false
def xE : Value → Bool
 | .agg cs => cs.toList.all F7
 | .func (.func _) a b => a.isEmpty && b.isEmpty
 | v => F7 v
def nv : Operand → Option dL
 | .tmp t => some (.t (Pos.of t))
 | .const v => if xE v then some (.c v) else none
 | .func f => some (.c (.func (.func f) #[] #[]))
 | .global _ => none
def ln : TypeDesc → Bool
 | .struct _ | .array _ _ => true
 | _ => false
def iZ : TypeDesc → Option Nat
 | .int _ => some 0
 | .bool => some 1
 | .string => some 2
 | _ => none
def vB : Operand → Bool
 | .const .nilIface => true
 | _ => false
def WB : Operand → Bool
 | .const (.pointer none) => true
 | _ => false
def F8 (P : Program) (u : TypeId) : List (TypeId × Nat) := ((List.range P.types.size).filter fun t => (t == u || (match P.underlying t with | some (.struct fs) => (fs[0]?).any (·.type == u) | _ => false)) && !(P.cellsOf t == 0) && liesAt P P.depth t 1 0 u 1).map fun t => (t, P.cellsOf t)
def dV (P : Program) (t : TypeId) : Option Nat := (P.info? t).map (·.size)
def zeroOf (P : Program) (t : TypeId) : Option Value := match P.info? t with
 | some i => match i.zero with
  | some z => if xE z then some z else none
  | none => none
 | none => none
def iY (n : Nat) (l : List Value) : List Value := match n with
 | 0 => []
 | n + 1 => l ++ iY n l
def yj (P : Program) : Nat → List Field → Option (List Nat)
 | _, [] => some []
 | n, f :: fs => if f.name ≠ "_" ∧ f.offset = n then
  match (P.underlying f.type).bind iZ, yj P (n + 1) fs with
  | some kc, some ks => some (kc :: ks)
  | _, _ => none
  else none
def sG : Nat → List (Nat × Nat) → Nat → Bool
 | n, [], m => n == m
 | n, (o, s) :: ps, m => n == o && sG (n + s) ps m
def vd (zero : List Value) (ps : List (Nat × Nat)) : Prim :=
 if sG 0 ps zero.length then .db (ps.map (·.2)) else .build zero ps
def lj (P : Program) (o : Oper) : Option (iH × List Operand) := match o.op with
 | .move x => some (.aO .move, [x])
 | .assign x => some (.aO .move, [x])
 | .pick c a b => some (.aO .pick, [c, a, b])
 | .alloc e => match zeroOf P e with
  | some z => some (.aO (.alloc e z.cells.toList), [])
  | none => none
 | .box e x => some (.aO (.box e), [x])
 | .build t parts => match P.underlying t, zeroOf P t with
  | some (.struct fs), some z =>
   if fs.toList.all (fun f => (dV P f.type).isSome) then
    match parts.toList.mapM (fun p => (fs[p.1]?).bind fun f => (dV P f.type).map fun s => (f.offset, s)) with
    | some ps => some (.aO (vd z.cells.toList ps), parts.toList.map (·.2))
    | none => none
   else none
  | some (.array _ e), some z => match dV P e with
   | some s => some (.aO (vd z.cells.toList (parts.toList.map fun p => (p.1 * s, s))), parts.toList.map (·.2))
   | none => none
  | _, _ => none
 | .buildSlice t len parts => match P.underlying t with
  | some (.slice e) => match dV P e, zeroOf P e with
   | some s, some z => if len * s ≤ 65536 && z.cells.size == s && 0 < s then some (.aO (.buildSlice e len (iY len z.cells.toList) (parts.toList.map fun p => (p.1 * s, s))), parts.toList.map (·.2)) else none
   | _, _ => none
  | _ => none
 | .load t a => match P.underlying t, dV P t with
  | some d, some s => if ln d then some (.aO (.bF s), [a]) else some (.aO .aI, [a])
  | _, _ => none
 | .store t a v => match dV P t with
  | some s => some (.aO (.store s), [a, v])
  | none => none
 | .nilCheck x => some (.aO .nilCheck, [x])
 | .fieldAddr s x f => match P.underlying s with
  | some (.struct fs) => match fs[f]? with
   | some fl => match dV P fl.type with
    | some sz => if sz = 0 then none else some (.aO (.fieldAddr fl.offset), [x])
    | none => none
   | none => none
  | _ => none
 | .field s x f => match P.underlying s with
  | some (.struct fs) => match fs[f]? with
   | some fl => match P.underlying fl.type, dV P fl.type with
    | some d, some sz => if ln d then some (.aO (.acD fl.offset sz), [x]) else some (.aO (.LD fl.offset), [x])
    | _, _ => none
   | none => none
  | _ => none
 | .indexAddr t x i => match P.underlying t with
  | some (.array len e) => match dV P e with
   | some s => some (.aO (.acE len s), [x, i])
   | none => none
  | some (.slice e) => match dV P e with
   | some s => some (.aO (.cd s), [x, i])
   | none => none
  | _ => none
 | .index t x i => match P.underlying t with
  | some (.array len e) => match P.underlying e, dV P e with
   | some d, some s => if ln d then some (.aO (.I5 len s), [x, i]) else if s = 1 then some (.aO (.qv len), [x, i]) else none
   | _, _ => none
  | some .string => some (.aO .T0, [x, i])
  | _ => none
 | .slice t x lo hi mx => match P.underlying t with
  | some (.slice e) => match dV P e with
   | some s => if 0 < s && (hi.isSome || !mx.isSome) then some (.aO (.slice s lo.isSome hi.isSome mx.isSome), x :: (lo.toList ++ hi.toList ++ mx.toList)) else none
   | none => none
  | some (.array n e) => match dV P e with
   | some s => if hi.isSome || !mx.isSome then some (.aO (.T1 n s lo.isSome hi.isSome mx.isSome), x :: (lo.toList ++ hi.toList ++ mx.toList)) else none
   | none => none
  | some .string => if mx.isSome then none else some (.aO (.x (.sub lo.isSome hi.isSome)), x :: (lo.toList ++ hi.toList))
  | _ => none
 | .binOp op t x y _ => match P.underlying t with
  | some (.int _) => some (.aO (.aL op), [x, y])
  | some .string => match op with
   | .eql | .neq => some (.aO (.T2 op), [x, y])
   | .add => some (.aO (.x .cat), [x, y])
   | .lss | .leq | .gtr | .geq => some (.aO (.x (.acu op)), [x, y])
   | _ => none
  | some .bool => match op with
   | .eql => some (.aO (.EW false), [x, y])
   | .neq => some (.aO (.EW true), [x, y])
   | _ => none
  | some (.struct fs) => if !P.stoodInHeld t && !P.eqGuardType P.depth t then match yj P 0 fs.toList, op with
   | some ks, .eql => some (.aO (.T3 false ks), [x, y])
   | some ks, .neq => some (.aO (.T3 true ks), [x, y])
   | _, _ => none else none
  | some (.pointer te) => if WB x || WB y then match op with
   | .eql => some (.aO (.oc 0 false), [x, y])
   | .neq => some (.aO (.oc 0 true), [x, y])
   | _ => none else match P.info? te, op with
   | some _, .eql => some (.aO (.x (.TZ false)), [x, y])
   | some _, .neq => some (.aO (.x (.TZ true)), [x, y])
   | _, _ => none
  | some (.slice _) => match op with
   | .eql => some (.aO (.oc 1 false), [x, y])
   | .neq => some (.aO (.oc 1 true), [x, y])
   | _ => none
  | some (.map _ _) => match op with
   | .eql => some (.aO (.oc 2 false), [x, y])
   | .neq => some (.aO (.oc 2 true), [x, y])
   | _ => none
  | some (.func _ _ _) => match op with
   | .eql => some (.aO (.oc 3 false), [x, y])
   | .neq => some (.aO (.oc 3 true), [x, y])
   | _ => none
  | some (.interface _) => if vB x || vB y then match op with
   | .eql => some (.aO (.oc 4 false), [x, y])
   | .neq => some (.aO (.oc 4 true), [x, y])
   | _ => none else none
  | _ => none
 | .unOp op _ x => match op with
  | .neg => some (.aO .neg, [x])
  | .not => some (.aO .eY, [x])
  | _ => none
 | .convert src dst x => match P.underlying src, P.underlying dst with
  | some (.int _), some (.int k) => some (.aO (.conv k), [x])
  | some (.pointer t), some .unsafePointer => match P.info? t with
   | some i => if i.size = 0 then none else some (.aO (.x .acx), [x])
   | none => none
  | some .unsafePointer, some (.pointer u) => match P.info? u with
   | some _ => some (.aO (.x (.acy (F8 P u))), [x])
   | none => none
  | _, _ => none
 | .makeInterface t x => match P.underlying t with
  | some (.interface _) | none => none
  | _ => some (.aO (.acF t), [x])
 | .makeFunc fn first bD => match fn with
  | .func f => some (.aO (.uF (.func f) first.size), first.toList ++ bD.toList)
  | .method s => some (.aO (.uF (.method s) first.size), first.toList ++ bD.toList)
  | _ => none
 | .makeMap _ r => match r with
  | none => some (.aO .mkMap, [])
  | some _ => none
 | .makeSlice t l c => match P.underlying t with
  | some (.slice e) => match P.info? e, zeroOf P e with
   | some i, some z => if 0 < i.size && i.bytes ≤ 65536 && z.cells.size == i.size then some (.aO (.mkSlice e i.size z.cells.toList), [l, c]) else none
   | _, _ => none
  | _ => none
 | .lookup t m x ok => match P.underlying t with
  | some (.map kt e) => match (P.underlying kt).bind iZ, zeroOf P e with
   | some kc, some z => some (.aO (.lookup kc z ok), [m, x])
   | _, _ => none
  | _ => none
 | .mapUpdate t m x v | .insert t m x v => match P.underlying t with
  | some (.map kt _) => match (P.underlying kt).bind iZ with
   | some kc => some (.aO (.pv kc), [m, x, v])
   | none => none
  | _ => none
 | .extract x i => some (.aO (.extract i), [x])
 | .typeAssert x _ asserted ok => match P.underlying asserted, zeroOf P asserted with
  | some (.interface _), _ => none
  | some _, some z => if ok then some (.aO (.T4 asserted z), [x]) else none
  | _, _ => none
 | .range t x => match P.underlying t with
  | some .string => some (.aO .LF, [x])
  | some (.map _ _) => some (.aO (.x .zN), [x])
  | _ => none
 | .next x isString => if isString then some (.aO .LG, [x]) else some (.aO (.x .uI), [x])
 | .entry x => some (.aO (.x .entry), [x])
 | .call c => match c.callee with
  | .value (.func g) => match P.funcs[g]? with
   | some fn => if fn.name != "runtime.NumGoroutine" && fn.body.isSome then some (.call g, c.args.toList) else if fn.body.isNone && (Extern.findNext fn).isNone then
    if fn.name == "internal/abi.NoEscape" then some (.aO (.x .same), c.args.toList)
    else if fn.name == "internal/bytealg.CountString" then some (.aO (.x .acB), c.args.toList)
    else if fn.name == "internal/bytealg.IndexByteString" then some (.aO (.x .acC), c.args.toList)
    else none
    else none
   | none => none
  | .value f => some (.dyn, f :: c.args.toList)
  | .invoke _ _ => none
  | .builtin b => match b with
   | .len => match c.args.toList, c.argTypes[0]? with
    | [x], some t => match P.underlying t with
     | some .string => some (.aO .acG, [x])
     | some (.slice _) => some (.aO .cx, [x])
     | some (.map _ _) => some (.aO .xq, [x])
     | some (.array n _) => some (.aO (.acH n), [x])
     | _ => none
    | _, _ => none
   | .cap => match c.args.toList, c.argTypes[0]? with
    | [x], some t => match P.underlying t with
     | some (.slice _) => some (.aO (.x .acv), [x])
     | _ => none
    | _, _ => none
   | .append => match c.args.toList, c.argTypes[0]?, c.argTypes[1]? with
    | [s, x], some t, some u => match P.underlying t, P.underlying u with
     | some (.slice e), some (.slice _) => match P.info? e, zeroOf P e with
      | some i, some z => if 0 < i.size && i.bytes ≤ 65536 && z.cells.size == i.size then some (.aO (.append e i.size z.cells.toList), [s, x]) else none
      | _, _ => none
     | some (.slice e), some .string => match P.info? e, zeroOf P e with
      | some i, some z => if i.size == 1 && i.bytes ≤ 65536 && z.cells.size == 1 then some (.aO (.x (.acw e z.cells.toList)), [s, x]) else none
      | _, _ => none
     | _, _ => none
    | _, _, _ => none
   | .copy => match c.args.toList, c.argTypes[0]? with
    | [d, s], some t => match P.underlying t with
     | some (.slice e) => match dV P e with
      | some sz => some (.aO (.copy sz), [d, s])
      | none => none
     | _ => none
    | _, _ => none
   | .max => match c.args.toList with
    | [x, y] => some (.aO .acI, [x, y])
    | _ => none
   | .min => match c.args.toList with
    | [x, y] => some (.aO .acJ, [x, y])
    | _ => none
   | .recover => match c.args.toList with
    | [] => some (.recover, [])
    | _ => none
   | .unsafeSliceData => match c.args.toList with
    | [x] => some (.aO (.x .acz), [x])
    | _ => none
   | .unsafeString => match c.args.toList, c.argTypes[0]? with
    | [p, n], some t => match P.underlying t with
     | some (.pointer u) => if P.cellsOf u = 1 then some (.aO (.x (.acA u)), [p, n]) else none
     | _ => none
    | _, _ => none
   | .panic => match c.args.toList with
    | [x] => some (.panic, [x])
    | _ => none
   | _ => none
 | .panic x => some (.panic, [x])
 | .defer c => match c.callee with
  | .value f => some (.defer, f :: c.args.toList)
  | _ => none
 | _ => none
def Prim.sW : Prim → Bool
 | .store _ | .append _ _ _ | .copy _ | .pv _ | .LF | .LG | .mkMap | .mkSlice _ _ _ | .x _ => true
 | _ => false
def iH.sW : iH → Bool
 | .aO p => p.sW
 | _ => true
def Au (P : Program) (o : Oper) : iH × List Operand := match lj P o with
 | some (a, xs) => match xs.mapM nv with
  | some _ => (a, xs)
  | none => (.aO (.x .bad), [])
 | none => (.aO (.x .bad), [])
def mI (P : Program) (nt : Nat) (ops : Array Oper) (o : Oper) : Option bf :=
 match Au P o with
 | (a, xs) =>
  match xs.mapM nv with
  | none => none
  | some args =>
   let dst? : Option (Option Pos) := match o.dst with
    | none => some none
    | some d => if d < nt then some (some (Pos.of d)) else none
   match dst? with
   | none => none
   | some dst => match o.guard with
    | none => some ⟨dst, a, args, none⟩
    | some (g, want) => match (ops[g]?).bind (·.dst) with
     | some t => some ⟨dst, a, args, some (Pos.of t, want)⟩
     | none => none
def Aw (P : Program) (nt : Nat) (ops : Array Oper) : Option (List bf) := ops.toList.mapM (mI P nt ops)
def WD (o : Oper) : List Nat := (o.after.toList.filter (Region.binds .any ·)).map (·.on)
def afd : dL → Option Pos
 | .t p => some p
 | .c _ => none
def bf.reads (a : bf) : List Pos := a.args.filterMap afd ++ (match a.guard with
 | some (p, _) => [p]
 | none => [])
def FX (l : List Pos) (p : Pos) : Bool := l.any p.beq
def ep (ops : Array Oper) (i : Nat) : List Nat := match ops[i]? with
 | some o => WD o
 | none => []
def NF (ops : Array Oper) (as : Array bf) (j : Nat) : Bool := match (as[j]?).bind (·.dst) with
 | none => false
 | some d => (List.range ops.size).any fun i => match as[i]? with
  | some a => FX a.reads d && !(ep ops i).contains j
  | none => false
def pU (ops : Array Oper) (as : Array bf) (j : Nat) : Bool := match as[j]? with
 | some a => a.act.sW || a.dst.isNone || NF ops as j
 | none => true
def WE (ops : Array Oper) (act : Nat → Bool) (b : Bool) (done : List Nat) : Option Nat :=
 (List.range ops.size).find? fun i => !done.contains i && (act i == b) && (ep ops i).all done.contains
def NK (ops : Array Oper) (act : Nat → Bool) : Nat → List Nat → List Nat
 | 0, _ => []
 | f + 1, done => match WE ops act false done with
  | some i => i :: NK ops act f (i :: done)
  | none => match WE ops act true done with
   | some i => i :: NK ops act f (i :: done)
   | none => []
def sX (ops : Array Oper) : List Nat → List Nat → List Nat
 | S, [] => S
 | S, j :: done => if S.contains j then sX ops (ep ops j ++ S) done else sX ops S done
def Bh (as : Array bf) : List Nat → Option (List iI)
 | [] => some []
 | j :: l => match as[j]?, Bh as l with
  | some a, some r => some (.lf j a :: r)
  | _, _ => none
def td (ops : Array Oper) (as : Array bf) (done dm : List Nat) : List Nat → Option (List iI)
 | [] => if (List.range ops.size).all done.contains then some [] else none
 | i :: order => match as[i]? with
  | none => none
  | some a => if !done.contains i && (ep ops i).all done.contains then
   if pU ops as i then
    if (List.range ops.size).all (fun j => done.contains j || j == i || !(ep ops j).all done.contains) then
     match Bh as (dm.filter fun j => !(sX ops (ep ops i) done).contains j), td ops as (i :: done) (dm.filter fun j => !(sX ops (ep ops i) done).contains j) order with
     | some cs, some r => some (.op i a :: (cs ++ r))
     | _, _ => none
    else none
   else (td ops as (i :: done) (i :: dm) order).map (iI.op i a :: ·)
   else none
def rh (ops : Array Oper) (as : Array bf) : Bool :=
 (List.range ops.size).all fun j => match (as[j]?).bind (·.dst) with
  | none => true
  | some d => (List.range ops.size).all fun i => match as[i]? with
   | none => true
   | some a => (i == j || (match a.dst with | some d' => !d.beq d' | none => true)) && (!FX a.reads d || i == j || (ep ops i).contains j || (ep ops j).contains i)
def Mh (ops : Array Oper) (as : Array bf) : Option (List iI) :=
 if rh ops as then td ops as [] [] (NK ops (pU ops as) ops.size []) else none
def NL : cN := .ops [⟨none, .aO (.x .bad), [], none⟩]
def fO (P : Program) (nt : Nat) : Code → Option cN
 | .skip => some .skip
 | .label _ => some .skip
 | .region _ ops false => (Aw P nt ops).map .ops
 | .region _ ops true => match Aw P nt ops with
  | some l => match Mh ops l.toArray with
   | some d => some (.draw d)
   | none => some NL
  | none => none
 | .seq a b => match fO P nt a, fO P nt b with
  | some x, some y => some (.seq x y)
  | _, _ => none
 | .cond c a b => match nv c, fO P nt a, fO P nt b with
  | some c, some x, some y => some (.cond c x y)
  | _, _, _ => none
 | .block id c => (fO P nt c).map (.block id)
 | .loop c => (fO P nt c).map .loop
 | .scope c => fO P nt c
 | .rangeFunc f ps a b => match nv f, fO P nt a, fO P nt b with
  | some f', some x, some y => if ps.toList.all (· < nt) then some (.mC f' (ps.toList.map Pos.of) x y) else none
  | _, _, _ => none
 | .exit id => some (.exit id)
 | .ret => some .ret
 | .goto _ => some NL
 | .refuse _ => some NL
def WG (o : bf) : Bool := match o.act with
 | .aO (.x .uI) => true
 | _ => false
def cN.nm : cN → Bool
 | .ops l => l.any WG
 | .draw l => l.any fun d => match d with
  | .op _ o => WG o
  | _ => false
 | .seq a b => a.nm || b.nm
 | .cond _ a b => a.nm || b.nm
 | .block _ c => c.nm
 | .loop c => c.nm
 | .mC _ _ a b => a.nm || b.nm
 | _ => false
def pL (P : Program) : ResultVar → Option kE
 | .tmp t => some (.tmp (Pos.of t))
 | .cell a t => match P.underlying t, dV P t with
  | some d, some s => if ln d then some (.cell (Pos.of a) (some s)) else some (.cell (Pos.of a) none)
  | _, _ => none
def bZ (P : Program) (f : FuncId) : Option gB := match P.funcs[f]? with
 | none => none
 | some fn => if fn.name == "runtime.NumGoroutine" then none else match fn.body with
  | none => none
  | some c => match fn.results.toList.mapM (pL P), fO P fn.ntmps c with
   | some rs, some ac => some ⟨fn.ntmps, rs, ac, ac.nm⟩
   | _, _ => none
end Go.Ve
