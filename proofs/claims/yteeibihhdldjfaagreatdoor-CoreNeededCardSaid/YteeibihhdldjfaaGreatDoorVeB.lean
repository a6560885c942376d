/- Part 2: VEval, part 3: from the program's own code to the evaluator's. Definitions; no condition. -/
import Derived.Test.YteeibihhdldjfaaGreatDoorVeA
import GoSem.Extern.Table
set_option linter.unusedVariables false
set_option linter.unusedSimpArgs false
namespace Go.Ve
def DU : Value → Bool
 | .bool _ | .int _ _ | .string _ | .pointer none | .map none | .nilFunc | .nilIface => true
 | .slice none l c => l == 0 && c == 0
 | _ => false
def vS : Value → Bool
 | .agg cs => cs.toList.all DU
 | .func (.func _) a b => a.isEmpty && b.isEmpty
 | v => DU v
def mI : Operand → Option dC
 | .tmp t => some (.t (Pos.of t))
 | .const v => if vS v then some (.c v) else none
 | .func f => some (.c (.func (.func f) #[] #[]))
 | .global _ => none
def kR : TypeDesc → Bool
 | .struct _ | .array _ _ => true
 | _ => false
def iC : TypeDesc → Option Nat
 | .int _ => some 0
 | .bool => some 1
 | .string => some 2
 | _ => none
def uo : Operand → Bool
 | .const .nilIface => true
 | _ => false
def SN : Operand → Bool
 | .const (.pointer none) => true
 | _ => false
def DV (P : Program) (u : TypeId) : List (TypeId × Nat) := ((List.range P.types.size).filter fun t => (t == u || (match P.underlying t with | some (.struct fs) => (fs[0]?).any (·.type == u) | _ => false)) && !(P.cellsOf t == 0) && liesAt P P.depth t 1 0 u 1).map fun t => (t, P.cellsOf t)
def dL (P : Program) (t : TypeId) : Option Nat := (P.info? t).map (·.size)
def zeroOf (P : Program) (t : TypeId) : Option Value := match P.info? t with
 | some i => match i.zero with
  | some z => if vS z then some z else none
  | none => none
 | none => none
def iB (n : Nat) (l : List Value) : List Value := match n with
 | 0 => []
 | n + 1 => l ++ iB n l
def wG (P : Program) : Nat → List Field → Option (List Nat)
 | _, [] => some []
 | n, f :: fs => if f.name ≠ "_" ∧ f.offset = n then
  match (P.underlying f.type).bind iC, wG P (n + 1) fs with
  | some kc, some ks => some (kc :: ks)
  | _, _ => none
  else none
def rC : Nat → List (Nat × Nat) → Nat → Bool
 | n, [], m => n == m
 | n, (o, s) :: ps, m => n == o && rC (n + s) ps m
def tS (zero : List Value) (ps : List (Nat × Nat)) : Prim :=
 if rC 0 ps zero.length then .cX (ps.map (·.2)) else .build zero ps
def kO (P : Program) (o : Oper) : Option (gZ × List Operand) := match o.op with
 | .move x => some (.aA .move, [x])
 | .assign x => some (.aA .move, [x])
 | .pick c a b => some (.aA .pick, [c, a, b])
 | .alloc e => match zeroOf P e with
  | some z => some (.aA (.alloc e z.cells.toList), [])
  | none => none
 | .box e x => some (.aA (.box e), [x])
 | .build t parts => match P.underlying t, zeroOf P t with
  | some (.struct fs), some z =>
   if fs.toList.all (fun f => (dL P f.type).isSome) then
    match parts.toList.mapM (fun p => (fs[p.1]?).bind fun f => (dL P f.type).map fun s => (f.offset, s)) with
    | some ps => some (.aA (tS z.cells.toList ps), parts.toList.map (·.2))
    | none => none
   else none
  | some (.array _ e), some z => match dL P e with
   | some s => some (.aA (tS z.cells.toList (parts.toList.map fun p => (p.1 * s, s))), parts.toList.map (·.2))
   | none => none
  | _, _ => none
 | .buildSlice t len parts => match P.underlying t with
  | some (.slice e) => match dL P e, zeroOf P e with
   | some s, some z => if len * s ≤ 65536 && z.cells.size == s && 0 < s then some (.aA (.buildSlice e len (iB len z.cells.toList) (parts.toList.map fun p => (p.1 * s, s))), parts.toList.map (·.2)) else none
   | _, _ => none
  | _ => none
 | .load t a => match P.underlying t, dL P t with
  | some d, some s => if kR d then some (.aA (.bB s), [a]) else some (.aA .aB, [a])
  | _, _ => none
 | .store t a v => match dL P t with
  | some s => some (.aA (.store s), [a, v])
  | none => none
 | .nilCheck x => some (.aA .nilCheck, [x])
 | .fieldAddr s x f => match P.underlying s with
  | some (.struct fs) => match fs[f]? with
   | some fl => match dL P fl.type with
    | some sz => if sz = 0 then none else some (.aA (.fieldAddr fl.offset), [x])
    | none => none
   | none => none
  | _ => none
 | .field s x f => match P.underlying s with
  | some (.struct fs) => match fs[f]? with
   | some fl => match P.underlying fl.type, dL P fl.type with
    | some d, some sz => if kR d then some (.aA (.ZF fl.offset sz), [x]) else some (.aA (.Io fl.offset), [x])
    | _, _ => none
   | none => none
  | _ => none
 | .indexAddr t x i => match P.underlying t with
  | some (.array len e) => match dL P e with
   | some s => some (.aA (.ZG len s), [x, i])
   | none => none
  | some (.slice e) => match dL P e with
   | some s => some (.aA (.di s), [x, i])
   | none => none
  | _ => none
 | .index t x i => match P.underlying t with
  | some (.array len e) => match P.underlying e, dL P e with
   | some d, some s => if kR d then some (.aA (.GG len s), [x, i]) else if s = 1 then some (.aA (.pL len), [x, i]) else none
   | _, _ => none
  | some .string => some (.aA .P9, [x, i])
  | _ => none
 | .slice t x lo hi mx => match P.underlying t with
  | some (.slice e) => match dL P e with
   | some s => if 0 < s && (hi.isSome || !mx.isSome) then some (.aA (.slice s lo.isSome hi.isSome mx.isSome), x :: (lo.toList ++ hi.toList ++ mx.toList)) else none
   | none => none
  | some (.array n e) => match dL P e with
   | some s => if hi.isSome || !mx.isSome then some (.aA (.Qa n s lo.isSome hi.isSome mx.isSome), x :: (lo.toList ++ hi.toList ++ mx.toList)) else none
   | none => none
  | some .string => if mx.isSome then none else some (.aA (.x (.sub lo.isSome hi.isSome)), x :: (lo.toList ++ hi.toList))
  | _ => none
 | .binOp op t x y _ => match P.underlying t with
  | some (.int _) => some (.aA (.aH op), [x, y])
  | some .string => match op with
   | .eql | .neq => some (.aA (.Qb op), [x, y])
   | .add => some (.aA (.x .cat), [x, y])
   | .lss | .leq | .gtr | .geq => some (.aA (.x (.Zw op)), [x, y])
   | _ => none
  | some .bool => match op with
   | .eql => some (.aA (.CT false), [x, y])
   | .neq => some (.aA (.CT true), [x, y])
   | _ => none
  | some (.struct fs) => if !P.stoodInHeld t && !P.eqGuardType P.depth t then match wG P 0 fs.toList, op with
   | some ks, .eql => some (.aA (.Qc false ks), [x, y])
   | some ks, .neq => some (.aA (.Qc true ks), [x, y])
   | _, _ => none else none
  | some (.pointer te) => if SN x || SN y then match op with
   | .eql => some (.aA (.nI 0 false), [x, y])
   | .neq => some (.aA (.nI 0 true), [x, y])
   | _ => none else match P.info? te, op with
   | some _, .eql => some (.aA (.x (.P8 false)), [x, y])
   | some _, .neq => some (.aA (.x (.P8 true)), [x, y])
   | _, _ => none
  | some (.slice _) => match op with
   | .eql => some (.aA (.nI 1 false), [x, y])
   | .neq => some (.aA (.nI 1 true), [x, y])
   | _ => none
  | some (.map _ _) => match op with
   | .eql => some (.aA (.nI 2 false), [x, y])
   | .neq => some (.aA (.nI 2 true), [x, y])
   | _ => none
  | some (.func _ _ _) => match op with
   | .eql => some (.aA (.nI 3 false), [x, y])
   | .neq => some (.aA (.nI 3 true), [x, y])
   | _ => none
  | some (.interface _) => if uo x || uo y then match op with
   | .eql => some (.aA (.nI 4 false), [x, y])
   | .neq => some (.aA (.nI 4 true), [x, y])
   | _ => none else none
  | _ => none
 | .unOp op _ x => match op with
  | .neg => some (.aA .neg, [x])
  | .not => some (.aA .eL, [x])
  | _ => none
 | .convert src dst x => match P.underlying src, P.underlying dst with
  | some (.int _), some (.int k) => some (.aA (.conv k), [x])
  | some (.pointer t), some .unsafePointer => match P.info? t with
   | some i => if i.size = 0 then none else some (.aA (.x .Zz), [x])
   | none => none
  | some .unsafePointer, some (.pointer u) => match P.info? u with
   | some _ => some (.aA (.x (.ZA (DV P u))), [x])
   | none => none
  | _, _ => none
 | .makeInterface t x => match P.underlying t with
  | some (.interface _) | none => none
  | _ => some (.aA (.ZH t), [x])
 | .makeFunc fn first bw => match fn with
  | .func f => some (.aA (.tx (.func f) first.size), first.toList ++ bw.toList)
  | .method s => some (.aA (.tx (.method s) first.size), first.toList ++ bw.toList)
  | _ => none
 | .makeMap _ r => match r with
  | none => some (.aA .mkMap, [])
  | some _ => none
 | .makeSlice t l c => match P.underlying t with
  | some (.slice e) => match P.info? e, zeroOf P e with
   | some i, some z => if 0 < i.size && i.bytes ≤ 65536 && z.cells.size == i.size then some (.aA (.mkSlice e i.size z.cells.toList), [l, c]) else none
   | _, _ => none
  | _ => none
 | .lookup t m x ok => match P.underlying t with
  | some (.map kt e) => match (P.underlying kt).bind iC, zeroOf P e with
   | some kc, some z => some (.aA (.lookup kc z ok), [m, x])
   | _, _ => none
  | _ => none
 | .mapUpdate t m x v | .insert t m x v => match P.underlying t with
  | some (.map kt _) => match (P.underlying kt).bind iC with
   | some kc => some (.aA (.nB kc), [m, x, v])
   | none => none
  | _ => none
 | .extract x i => some (.aA (.extract i), [x])
 | .typeAssert x _ asserted ok => match P.underlying asserted, zeroOf P asserted with
  | some (.interface _), _ => none
  | some _, some z => if ok then some (.aA (.Qd asserted z), [x]) else none
  | _, _ => none
 | .range t x => match P.underlying t with
  | some .string => some (.aA .Ip, [x])
  | some (.map _ _) => some (.aA (.x .yb), [x])
  | _ => none
 | .next x isString => if isString then some (.aA .Iq, [x]) else some (.aA (.x .tB), [x])
 | .entry x => some (.aA (.x .entry), [x])
 | .call c => match c.callee with
  | .value (.func g) => match P.funcs[g]? with
   | some fn => if fn.name != "runtime.NumGoroutine" && fn.body.isSome then some (.call g, c.args.toList) else if fn.body.isNone && (Extern.findNext fn).isNone then
    if fn.name == "internal/abi.NoEscape" then some (.aA (.x .same), c.args.toList)
    else if fn.name == "internal/bytealg.CountString" then some (.aA (.x .ZD), c.args.toList)
    else if fn.name == "internal/bytealg.IndexByteString" then some (.aA (.x .ZE), c.args.toList)
    else none
    else none
   | none => none
  | .value f => some (.dyn, f :: c.args.toList)
  | .invoke _ _ => none
  | .builtin b => match b with
   | .len => match c.args.toList, c.argTypes[0]? with
    | [x], some t => match P.underlying t with
     | some .string => some (.aA .ZI, [x])
     | some (.slice _) => some (.aA .cW, [x])
     | some (.map _ _) => some (.aA .vG, [x])
     | some (.array n _) => some (.aA (.ZJ n), [x])
     | _ => none
    | _, _ => none
   | .cap => match c.args.toList, c.argTypes[0]? with
    | [x], some t => match P.underlying t with
     | some (.slice _) => some (.aA (.x .Zx), [x])
     | _ => none
    | _, _ => none
   | .append => match c.args.toList, c.argTypes[0]?, c.argTypes[1]? with
    | [s, x], some t, some u => match P.underlying t, P.underlying u with
     | some (.slice e), some (.slice _) => match P.info? e, zeroOf P e with
      | some i, some z => if 0 < i.size && i.bytes ≤ 65536 && z.cells.size == i.size then some (.aA (.append e i.size z.cells.toList), [s, x]) else none
      | _, _ => none
     | some (.slice e), some .string => match P.info? e, zeroOf P e with
      | some i, some z => if i.size == 1 && i.bytes ≤ 65536 && z.cells.size == 1 then some (.aA (.x (.Zy e z.cells.toList)), [s, x]) else none
      | _, _ => none
     | _, _ => none
    | _, _, _ => none
   | .copy => match c.args.toList, c.argTypes[0]? with
    | [d, s], some t => match P.underlying t with
     | some (.slice e) => match dL P e with
      | some sz => some (.aA (.copy sz), [d, s])
      | none => none
     | _ => none
    | _, _ => none
   | .max => match c.args.toList with
    | [x, y] => some (.aA .ZK, [x, y])
    | _ => none
   | .min => match c.args.toList with
    | [x, y] => some (.aA .ZL, [x, y])
    | _ => none
   | .recover => match c.args.toList with
    | [] => some (.recover, [])
    | _ => none
   | .unsafeSliceData => match c.args.toList with
    | [x] => some (.aA (.x .ZB), [x])
    | _ => none
   | .unsafeString => match c.args.toList, c.argTypes[0]? with
    | [p, n], some t => match P.underlying t with
     | some (.pointer u) => if P.cellsOf u = 1 then some (.aA (.x (.ZC u)), [p, n]) else none
     | _ => none
    | _, _ => none
   | .panic => match c.args.toList with
    | [x] => some (.panic, [x])
    | _ => none
   | _ => none
 | .panic x => some (.panic, [x])
 | .defer c => match c.callee with
  | .value f => some (.defer, f :: c.args.toList)
  | _ => none
 | _ => none
def Prim.rV : Prim → Bool
 | .store _ | .append _ _ _ | .copy _ | .nB _ | .Ip | .Iq | .mkMap | .mkSlice _ _ _ | .x _ => true
 | _ => false
def gZ.rV : gZ → Bool
 | .aA p => p.rV
 | _ => true
def yQ (P : Program) (o : Oper) : gZ × List Operand := match kO P o with
 | some (a, xs) => match xs.mapM mI with
  | some _ => (a, xs)
  | none => (.aA (.x .bad), [])
 | none => (.aA (.x .bad), [])
def l8 (P : Program) (nt : Nat) (ops : Array Oper) (o : Oper) : Option aX :=
 match yQ P o with
 | (a, xs) =>
  match xs.mapM mI with
  | none => none
  | some args =>
   let dst? : Option (Option Pos) := match o.dst with
    | none => some none
    | some d => if d < nt then some (some (Pos.of d)) else none
   match dst? with
   | none => none
   | some dst => match o.guard with
    | none => some ⟨dst, a, args, none⟩
    | some (g, want) => match (ops[g]?).bind (·.dst) with
     | some t => some ⟨dst, a, args, some (Pos.of t, want)⟩
     | none => none
def yS (P : Program) (nt : Nat) (ops : Array Oper) : Option (List aX) := ops.toList.mapM (l8 P nt ops)
def SO (o : Oper) : List Nat := (o.after.toList.filter (Region.binds .any ·)).map (·.on)
def ack : dC → Option Pos
 | .t p => some p
 | .c _ => none
def aX.reads (a : aX) : List Pos := a.args.filterMap ack ++ (match a.guard with
 | some (p, _) => [p]
 | none => [])
def DK (l : List Pos) (p : Pos) : Bool := l.any p.beq
def ec (ops : Array Oper) (i : Nat) : List Nat := match ops[i]? with
 | some o => SO o
 | none => []
def Ke (ops : Array Oper) (as : Array aX) (j : Nat) : Bool := match (as[j]?).bind (·.dst) with
 | none => false
 | some d => (List.range ops.size).any fun i => match as[i]? with
  | some a => DK a.reads d && !(ec ops i).contains j
  | none => false
def o6 (ops : Array Oper) (as : Array aX) (j : Nat) : Bool := match as[j]? with
 | some a => a.act.rV || a.dst.isNone || Ke ops as j
 | none => true
def SP (ops : Array Oper) (act : Nat → Bool) (b : Bool) (done : List Nat) : Option Nat :=
 (List.range ops.size).find? fun i => !done.contains i && (act i == b) && (ec ops i).all done.contains
def Kj (ops : Array Oper) (act : Nat → Bool) : Nat → List Nat → List Nat
 | 0, _ => []
 | f + 1, done => match SP ops act false done with
  | some i => i :: Kj ops act f (i :: done)
  | none => match SP ops act true done with
   | some i => i :: Kj ops act f (i :: done)
   | none => []
def rW (ops : Array Oper) : List Nat → List Nat → List Nat
 | S, [] => S
 | S, j :: done => if S.contains j then rW ops (ec ops j ++ S) done else rW ops S done
def zB (as : Array aX) : List Nat → Option (List hO)
 | [] => some []
 | j :: l => match as[j]?, zB as l with
  | some a, some r => some (.kL j a :: r)
  | _, _ => none
def r8 (ops : Array Oper) (as : Array aX) (done db : List Nat) : List Nat → Option (List hO)
 | [] => if (List.range ops.size).all done.contains then some [] else none
 | i :: order => match as[i]? with
  | none => none
  | some a => if !done.contains i && (ec ops i).all done.contains then
   if o6 ops as i then
    if (List.range ops.size).all (fun j => done.contains j || j == i || !(ec ops j).all done.contains) then
     match zB as (db.filter fun j => !(rW ops (ec ops i) done).contains j), r8 ops as (i :: done) (db.filter fun j => !(rW ops (ec ops i) done).contains j) order with
     | some cs, some r => some (.op i a :: (cs ++ r))
     | _, _ => none
    else none
   else (r8 ops as (i :: done) (i :: db) order).map (hO.op i a :: ·)
   else none
def qv (ops : Array Oper) (as : Array aX) : Bool :=
 (List.range ops.size).all fun j => match (as[j]?).bind (·.dst) with
  | none => true
  | some d => (List.range ops.size).all fun i => match as[i]? with
   | none => true
   | some a => (i == j || (match a.dst with | some d' => !d.beq d' | none => true)) && (!DK a.reads d || i == j || (ec ops i).contains j || (ec ops j).contains i)
def IU (ops : Array Oper) (as : Array aX) : Option (List hO) :=
 if qv ops as then r8 ops as [] [] (Kj ops (o6 ops as) ops.size []) else none
def Kk : cA := .ops [⟨none, .aA (.x .bad), [], none⟩]
def fg (P : Program) (nt : Nat) : Code → Option cA
 | .skip => some .skip
 | .label _ => some .skip
 | .region _ ops false => (yS P nt ops).map .ops
 | .region _ ops true => match yS P nt ops with
  | some l => match IU ops l.toArray with
   | some d => some (.draw d)
   | none => some Kk
  | none => none
 | .seq a b => match fg P nt a, fg P nt b with
  | some x, some y => some (.seq x y)
  | _, _ => none
 | .cond c a b => match mI c, fg P nt a, fg P nt b with
  | some c, some x, some y => some (.cond c x y)
  | _, _, _ => none
 | .block id c => (fg P nt c).map (.block id)
 | .loop c => (fg P nt c).map .loop
 | .scope c => fg P nt c
 | .rangeFunc f ps a b => match mI f, fg P nt a, fg P nt b with
  | some f', some x, some y => if ps.toList.all (· < nt) then some (.lY f' (ps.toList.map Pos.of) x y) else none
  | _, _, _ => none
 | .exit id => some (.exit id)
 | .ret => some .ret
 | .goto _ => some Kk
 | .refuse _ => some Kk
def SS (o : aX) : Bool := match o.act with
 | .aA (.x .tB) => true
 | _ => false
def cA.nm : cA → Bool
 | .ops l => l.any SS
 | .draw l => l.any fun d => match d with
  | .op _ o => SS o
  | _ => false
 | .seq a b => a.nm || b.nm
 | .cond _ a b => a.nm || b.nm
 | .block _ c => c.nm
 | .loop c => c.nm
 | .lY _ _ a b => a.nm || b.nm
 | _ => false
def oU (P : Program) : ResultVar → Option j4
 | .tmp t => some (.tmp (Pos.of t))
 | .cell a t => match P.underlying t, dL P t with
  | some d, some s => if kR d then some (.cell (Pos.of a) (some s)) else some (.cell (Pos.of a) none)
  | _, _ => none
def bN (P : Program) (f : FuncId) : Option fU := match P.funcs[f]? with
 | none => none
 | some fn => if fn.name == "runtime.NumGoroutine" then none else match fn.body with
  | none => none
  | some c => match fn.results.toList.mapM (oU P), fg P fn.ntmps c with
   | some rs, some ac => some ⟨fn.ntmps, rs, ac, ac.nm⟩
   | _, _ => none
end Go.Ve
