/- Part 2: VEval, part 3: from the program's own code to the evaluator's. Definitions; no condition. -/
import Derived.Test.YteeibihhdldjfaaGreatDoorVeA
import GoSem.Extern.Table
set_option linter.unusedVariables false
set_option linter.unusedSimpArgs false
namespace Go.Ve
def GM : Value → Bool
 | .bool _ | .int _ _ | .string _ | .pointer none | .map none | .nilFunc | .nilIface => true
 | .slice none l c => l == 0 && c == 0
 | _ => false
def xM : Value → Bool
 | .agg cs => cs.toList.all GM
 | .func (.func _) a b => a.isEmpty && b.isEmpty
 | v => GM v
def nS : Operand → Option ee
 | .tmp t => some (.t (Pos.of t))
 | .const v => if xM v then some (.c v) else none
 | .func f => some (.c (.func (.func f) #[] #[]))
 | .global _ => none
def lR : TypeDesc → Bool
 | .struct _ | .array _ _ => true
 | _ => false
def jA : TypeDesc → Option Nat
 | .int _ => some 0
 | .bool => some 1
 | .string => some 2
 | _ => none
def vq : Operand → Bool
 | .const .nilIface => true
 | _ => false
def WN : Operand → Bool
 | .const (.pointer none) => true
 | _ => false
def GN (P : Program) (u : TypeId) : List (TypeId × Nat) := ((List.range P.types.size).filter fun t => (t == u || (match P.underlying t with | some (.struct fs) => (fs[0]?).any (·.type == u) | _ => false)) && !(P.cellsOf t == 0) && liesAt P P.depth t 1 0 u 1).map fun t => (t, P.cellsOf t)
def eE (P : Program) (t : TypeId) : Option Nat := (P.info? t).map (·.size)
def zeroOf (P : Program) (t : TypeId) : Option Value := match P.info? t with
 | some i => match i.zero with
  | some z => if xM z then some z else none
  | none => none
 | none => none
def jz (n : Nat) (l : List Value) : List Value := match n with
 | 0 => []
 | n + 1 => l ++ jz n l
def yw (P : Program) : Nat → List Field → Option (List Nat)
 | _, [] => some []
 | n, f :: fs => if f.name ≠ "_" ∧ f.offset = n then
  match (P.underlying f.type).bind jA, yw P (n + 1) fs with
  | some kc, some ks => some (kc :: ks)
  | _, _ => none
  else none
def sP : Nat → List (Nat × Nat) → Nat → Bool
 | n, [], m => n == m
 | n, (o, s) :: ps, m => n == o && sP (n + s) ps m
def uV (zero : List Value) (ps : List (Nat × Nat)) : Prim :=
 if sP 0 ps zero.length then .de (ps.map (·.2)) else .build zero ps
def lO (P : Program) (o : Oper) : Option (jc × List Operand) := match o.op with
 | .move x => some (.aQ .move, [x])
 | .assign x => some (.aQ .move, [x])
 | .pick c a b => some (.aQ .pick, [c, a, b])
 | .alloc e => match zeroOf P e with
  | some z => some (.aQ (.alloc e z.cells.toList), [])
  | none => none
 | .box e x => some (.aQ (.box e), [x])
 | .build t parts => match P.underlying t, zeroOf P t with
  | some (.struct fs), some z =>
   if fs.toList.all (fun f => (eE P f.type).isSome) then
    match parts.toList.mapM (fun p => (fs[p.1]?).bind fun f => (eE P f.type).map fun s => (f.offset, s)) with
    | some ps => some (.aQ (uV z.cells.toList ps), parts.toList.map (·.2))
    | none => none
   else none
  | some (.array _ e), some z => match eE P e with
   | some s => some (.aQ (uV z.cells.toList (parts.toList.map fun p => (p.1 * s, s))), parts.toList.map (·.2))
   | none => none
  | _, _ => none
 | .buildSlice t len parts => match P.underlying t with
  | some (.slice e) => match eE P e, zeroOf P e with
   | some s, some z => if len * s ≤ 65536 && z.cells.size == s && 0 < s then some (.aQ (.buildSlice e len (jz len z.cells.toList) (parts.toList.map fun p => (p.1 * s, s))), parts.toList.map (·.2)) else none
   | _, _ => none
  | _ => none
 | .load t a => match P.underlying t, eE P t with
  | some d, some s => if lR d then some (.aQ (.bo s), [a]) else some (.aQ .aL, [a])
  | _, _ => none
 | .store t a v => match eE P t with
  | some s => some (.aQ (.store s), [a, v])
  | none => none
 | .nilCheck x => some (.aQ .nilCheck, [x])
 | .fieldAddr s x f => match P.underlying s with
  | some (.struct fs) => match fs[f]? with
   | some fl => match eE P fl.type with
    | some sz => if sz = 0 then none else some (.aQ (.fieldAddr fl.offset), [x])
    | none => none
   | none => none
  | _ => none
 | .field s x f => match P.underlying s with
  | some (.struct fs) => match fs[f]? with
   | some fl => match P.underlying fl.type, eE P fl.type with
    | some d, some sz => if lR d then some (.aQ (.ads fl.offset sz), [x]) else some (.aQ (.LX fl.offset), [x])
    | _, _ => none
   | none => none
  | _ => none
 | .indexAddr t x i => match P.underlying t with
  | some (.array len e) => match eE P e with
   | some s => some (.aQ (.xE len s), [x, i])
   | none => none
  | some (.slice e) => match eE P e with
   | some s => some (.aQ (.cV s), [x, i])
   | none => none
  | _ => none
 | .index t x i => match P.underlying t with
  | some (.array len e) => match P.underlying e, eE P e with
   | some d, some s => if lR d then some (.aQ (.JD len s), [x, i]) else if s = 1 then some (.aQ (.qM len), [x, i]) else none
   | _, _ => none
  | some .string => some (.aQ .Uc, [x, i])
  | _ => none
 | .slice t x lo hi mx => match P.underlying t with
  | some (.slice e) => match eE P e with
   | some s => if 0 < s && (hi.isSome || !mx.isSome) then some (.aQ (.slice s lo.isSome hi.isSome mx.isSome), x :: (lo.toList ++ hi.toList ++ mx.toList)) else none
   | none => none
  | some (.array n e) => match eE P e with
   | some s => if hi.isSome || !mx.isSome then some (.aQ (.Ud n s lo.isSome hi.isSome mx.isSome), x :: (lo.toList ++ hi.toList ++ mx.toList)) else none
   | none => none
  | some .string => if mx.isSome then none else some (.aQ (.x (.sub lo.isSome hi.isSome)), x :: (lo.toList ++ hi.toList))
  | _ => none
 | .binOp op t x y _ => match P.underlying t with
  | some (.int _) => some (.aQ (.aN op), [x, y])
  | some .string => match op with
   | .eql | .neq => some (.aQ (.Ue op), [x, y])
   | .add => some (.aQ (.x .cat), [x, y])
   | .lss | .leq | .gtr | .geq => some (.aQ (.x (.adj op)), [x, y])
   | _ => none
  | some .bool => match op with
   | .eql => some (.aQ (.Ag false), [x, y])
   | .neq => some (.aQ (.Ag true), [x, y])
   | _ => none
  | some (.struct fs) => if !P.stoodInHeld t && !P.eqGuardType P.depth t then match yw P 0 fs.toList, op with
   | some ks, .eql => some (.aQ (.z7 false ks), [x, y])
   | some ks, .neq => some (.aQ (.z7 true ks), [x, y])
   | _, _ => none else none
  | some (.pointer te) => if WN x || WN y then match op with
   | .eql => some (.aQ (.oG 0 false), [x, y])
   | .neq => some (.aQ (.oG 0 true), [x, y])
   | _ => none else match P.info? te, op with
   | some _, .eql => some (.aQ (.x (.Ub false)), [x, y])
   | some _, .neq => some (.aQ (.x (.Ub true)), [x, y])
   | _, _ => none
  | some (.slice _) => match op with
   | .eql => some (.aQ (.oG 1 false), [x, y])
   | .neq => some (.aQ (.oG 1 true), [x, y])
   | _ => none
  | some (.map _ _) => match op with
   | .eql => some (.aQ (.oG 2 false), [x, y])
   | .neq => some (.aQ (.oG 2 true), [x, y])
   | _ => none
  | some (.func _ _ _) => match op with
   | .eql => some (.aQ (.oG 3 false), [x, y])
   | .neq => some (.aQ (.oG 3 true), [x, y])
   | _ => none
  | some (.interface _) => if vq x || vq y then match op with
   | .eql => some (.aQ (.oG 4 false), [x, y])
   | .neq => some (.aQ (.oG 4 true), [x, y])
   | _ => none else none
  | _ => none
 | .unOp op _ x => match op with
  | .neg => some (.aQ .neg, [x])
  | .not => some (.aQ .dQ, [x])
  | _ => none
 | .convert src dst x => match P.underlying src, P.underlying dst with
  | some (.int _), some (.int k) => some (.aQ (.conv k), [x])
  | some (.pointer t), some .unsafePointer => match P.info? t with
   | some i => if i.size = 0 then none else some (.aQ (.x .adm), [x])
   | none => none
  | some .unsafePointer, some (.pointer u) => match P.info? u with
   | some _ => some (.aQ (.x (.adn (GN P u))), [x])
   | none => none
  | _, _ => none
 | .makeInterface t x => match P.underlying t with
  | some (.interface _) | none => none
  | _ => some (.aQ (.adt t), [x])
 | .makeFunc fn first bR => match fn with
  | .func f => some (.aQ (.uF (.func f) first.size), first.toList ++ bR.toList)
  | .method s => some (.aQ (.uF (.method s) first.size), first.toList ++ bR.toList)
  | _ => none
 | .makeMap _ r => match r with
  | none => some (.aQ .mkMap, [])
  | some _ => none
 | .makeSlice t l c => match P.underlying t with
  | some (.slice e) => match P.info? e, zeroOf P e with
   | some i, some z => if 0 < i.size && i.bytes ≤ 65536 && z.cells.size == i.size then some (.aQ (.mkSlice e i.size z.cells.toList), [l, c]) else none
   | _, _ => none
  | _ => none
 | .lookup t m x ok => match P.underlying t with
  | some (.map kt e) => match (P.underlying kt).bind jA, zeroOf P e with
   | some kc, some z => some (.aQ (.lookup kc z ok), [m, x])
   | _, _ => none
  | _ => none
 | .mapUpdate t m x v | .insert t m x v => match P.underlying t with
  | some (.map kt _) => match (P.underlying kt).bind jA with
   | some kc => some (.aQ (.oA kc), [m, x, v])
   | none => none
  | _ => none
 | .extract x i => some (.aQ (.extract i), [x])
 | .typeAssert x _ asserted ok => match P.underlying asserted, zeroOf P asserted with
  | some (.interface _), _ => none
  | some _, some z => if ok then some (.aQ (.Uf asserted z), [x]) else none
  | _, _ => none
 | .range t x => match P.underlying t with
  | some .string => some (.aQ .LY, [x])
  | some (.map _ _) => some (.aQ (.x .Ki), [x])
  | _ => none
 | .next x isString => if isString then some (.aQ .LZ, [x]) else some (.aQ (.x .zZ), [x])
 | .entry x => some (.aQ (.x .entry), [x])
 | .call c => match c.callee with
  | .value (.func g) => match P.funcs[g]? with
   | some fn => if fn.name != "runtime.NumGoroutine" && fn.body.isSome then some (.call g, c.args.toList) else if fn.body.isNone && (Extern.findNext fn).isNone then
    if fn.name == "internal/abi.NoEscape" then some (.aQ (.x .same), c.args.toList)
    else if fn.name == "internal/bytealg.CountString" then some (.aQ (.x .adq), c.args.toList)
    else if fn.name == "internal/bytealg.IndexByteString" then some (.aQ (.x .adr), c.args.toList)
    else none
    else none
   | none => none
  | .value f => some (.dyn, f :: c.args.toList)
  | .invoke _ _ => none
  | .builtin b => match b with
   | .len => match c.args.toList, c.argTypes[0]? with
    | [x], some t => match P.underlying t with
     | some .string => some (.aQ .adu, [x])
     | some (.slice _) => some (.aQ .cO, [x])
     | some (.map _ _) => some (.aQ .adv, [x])
     | some (.array n _) => some (.aQ (.adw n), [x])
     | _ => none
    | _, _ => none
   | .cap => match c.args.toList, c.argTypes[0]? with
    | [x], some t => match P.underlying t with
     | some (.slice _) => some (.aQ (.x .adk), [x])
     | _ => none
    | _, _ => none
   | .append => match c.args.toList, c.argTypes[0]?, c.argTypes[1]? with
    | [s, x], some t, some u => match P.underlying t, P.underlying u with
     | some (.slice e), some (.slice _) => match P.info? e, zeroOf P e with
      | some i, some z => if 0 < i.size && i.bytes ≤ 65536 && z.cells.size == i.size then some (.aQ (.append e i.size z.cells.toList), [s, x]) else none
      | _, _ => none
     | some (.slice e), some .string => match P.info? e, zeroOf P e with
      | some i, some z => if i.size == 1 && i.bytes ≤ 65536 && z.cells.size == 1 then some (.aQ (.x (.adl e z.cells.toList)), [s, x]) else none
      | _, _ => none
     | _, _ => none
    | _, _, _ => none
   | .copy => match c.args.toList, c.argTypes[0]? with
    | [d, s], some t => match P.underlying t with
     | some (.slice e) => match eE P e with
      | some sz => some (.aQ (.copy sz), [d, s])
      | none => none
     | _ => none
    | _, _ => none
   | .max => match c.args.toList with
    | [x, y] => some (.aQ .adx, [x, y])
    | _ => none
   | .min => match c.args.toList with
    | [x, y] => some (.aQ .ady, [x, y])
    | _ => none
   | .recover => match c.args.toList with
    | [] => some (.recover, [])
    | _ => none
   | .unsafeSliceData => match c.args.toList with
    | [x] => some (.aQ (.x .ado), [x])
    | _ => none
   | .unsafeString => match c.args.toList, c.argTypes[0]? with
    | [p, n], some t => match P.underlying t with
     | some (.pointer u) => if P.cellsOf u = 1 then some (.aQ (.x (.adp u)), [p, n]) else none
     | _ => none
    | _, _ => none
   | .panic => match c.args.toList with
    | [x] => some (.panic, [x])
    | _ => none
   | _ => none
 | .panic x => some (.panic, [x])
 | .defer c => match c.callee with
  | .value f => some (.defer, f :: c.args.toList)
  | _ => none
 | _ => none
def Prim.tg : Prim → Bool
 | .store _ | .append _ _ _ | .copy _ | .oA _ | .LY | .LZ | .mkMap | .mkSlice _ _ _ | .x _ => true
 | _ => false
def jc.tg : jc → Bool
 | .aQ p => p.tg
 | _ => true
def AK (P : Program) (o : Oper) : jc × List Operand := match lO P o with
 | some (a, xs) => match xs.mapM nS with
  | some _ => (a, xs)
  | none => (.aQ (.x .bad), [])
 | none => (.aQ (.x .bad), [])
def nb (P : Program) (nt : Nat) (ops : Array Oper) (o : Oper) : Option bB :=
 match AK P o with
 | (a, xs) =>
  match xs.mapM nS with
  | none => none
  | some args =>
   let dst? : Option (Option Pos) := match o.dst with
    | none => some none
    | some d => if d < nt then some (some (Pos.of d)) else none
   match dst? with
   | none => none
   | some dst => match o.guard with
    | none => some ⟨dst, a, args, none⟩
    | some (g, want) => match (ops[g]?).bind (·.dst) with
     | some t => some ⟨dst, a, args, some (Pos.of t, want)⟩
     | none => none
def AM (P : Program) (nt : Nat) (ops : Array Oper) : Option (List bB) := ops.toList.mapM (nb P nt ops)
def WO (o : Oper) : List Nat := (o.after.toList.filter (Region.binds .any ·)).map (·.on)
def afZ : ee → Option Pos
 | .t p => some p
 | .c _ => none
def bB.reads (a : bB) : List Pos := a.args.filterMap afZ ++ (match a.guard with
 | some (p, _) => [p]
 | none => [])
def GF (l : List Pos) (p : Pos) : Bool := l.any p.beq
def fe (ops : Array Oper) (i : Nat) : List Nat := match ops[i]? with
 | some o => WO o
 | none => []
def NS (ops : Array Oper) (as : Array bB) (j : Nat) : Bool := match (as[j]?).bind (·.dst) with
 | none => false
 | some d => (List.range ops.size).any fun i => match as[i]? with
  | some a => GF a.reads d && !(fe ops i).contains j
  | none => false
def qh (ops : Array Oper) (as : Array bB) (j : Nat) : Bool := match as[j]? with
 | some a => a.act.tg || a.dst.isNone || NS ops as j
 | none => true
def WQ (ops : Array Oper) (act : Nat → Bool) (b : Bool) (done : List Nat) : Option Nat :=
 (List.range ops.size).find? fun i => !done.contains i && (act i == b) && (fe ops i).all done.contains
def NZ (ops : Array Oper) (act : Nat → Bool) : Nat → List Nat → List Nat
 | 0, _ => []
 | f + 1, done => match WQ ops act false done with
  | some i => i :: NZ ops act f (i :: done)
  | none => match WQ ops act true done with
   | some i => i :: NZ ops act f (i :: done)
   | none => []
def th (ops : Array Oper) : List Nat → List Nat → List Nat
 | S, [] => S
 | S, j :: done => if S.contains j then th ops (fe ops j ++ S) done else th ops S done
def Bu (as : Array bB) : List Nat → Option (List jd)
 | [] => some []
 | j :: l => match as[j]?, Bu as l with
  | some a, some r => some (.lM j a :: r)
  | _, _ => none
def tn (ops : Array Oper) (as : Array bB) (done dR : List Nat) : List Nat → Option (List jd)
 | [] => if (List.range ops.size).all done.contains then some [] else none
 | i :: order => match as[i]? with
  | none => none
  | some a => if !done.contains i && (fe ops i).all done.contains then
   if qh ops as i then
    if (List.range ops.size).all (fun j => done.contains j || j == i || !(fe ops j).all done.contains) then
     match Bu as (dR.filter fun j => !(th ops (fe ops i) done).contains j), tn ops as (i :: done) (dR.filter fun j => !(th ops (fe ops i) done).contains j) order with
     | some cs, some r => some (.op i a :: (cs ++ r))
     | _, _ => none
    else none
   else (tn ops as (i :: done) (i :: dR) order).map (jd.op i a :: ·)
   else none
def rH (ops : Array Oper) (as : Array bB) : Bool :=
 (List.range ops.size).all fun j => match (as[j]?).bind (·.dst) with
  | none => true
  | some d => (List.range ops.size).all fun i => match as[i]? with
   | none => true
   | some a => (i == j || (match a.dst with | some d' => !d.beq d' | none => true)) && (!GF a.reads d || i == j || (fe ops i).contains j || (fe ops j).contains i)
def Mu (ops : Array Oper) (as : Array bB) : Option (List jd) :=
 if rH ops as then tn ops as [] [] (NZ ops (qh ops as) ops.size []) else none
def N0 : dh := .ops [⟨none, .aQ (.x .bad), [], none⟩]
def gA (P : Program) (nt : Nat) : Code → Option dh
 | .skip => some .skip
 | .label _ => some .skip
 | .region _ ops false => (AM P nt ops).map .ops
 | .region _ ops true => match AM P nt ops with
  | some l => match Mu ops l.toArray with
   | some d => some (.draw d)
   | none => some N0
  | none => none
 | .seq a b => match gA P nt a, gA P nt b with
  | some x, some y => some (.seq x y)
  | _, _ => none
 | .cond c a b => match nS c, gA P nt a, gA P nt b with
  | some c, some x, some y => some (.cond c x y)
  | _, _, _ => none
 | .block id c => (gA P nt c).map (.block id)
 | .loop c => (gA P nt c).map .loop
 | .scope c => gA P nt c
 | .rangeFunc f ps a b => match nS f, gA P nt a, gA P nt b with
  | some f', some x, some y => if ps.toList.all (· < nt) then some (.mV f' (ps.toList.map Pos.of) x y) else none
  | _, _, _ => none
 | .exit id => some (.exit id)
 | .ret => some .ret
 | .goto _ => some N0
 | .refuse _ => some N0
def WS (o : bB) : Bool := match o.act with
 | .aQ (.x .zZ) => true
 | _ => false
def dh.nm : dh → Bool
 | .ops l => l.any WS
 | .draw l => l.any fun d => match d with
  | .op _ o => WS o
  | _ => false
 | .seq a b => a.nm || b.nm
 | .cond _ a b => a.nm || b.nm
 | .block _ c => c.nm
 | .loop c => c.nm
 | .mV _ _ a b => a.nm || b.nm
 | _ => false
def pW (P : Program) : ResultVar → Option lg
 | .tmp t => some (.tmp (Pos.of t))
 | .cell a t => match P.underlying t, eE P t with
  | some d, some s => if lR d then some (.cell (Pos.of a) (some s)) else some (.cell (Pos.of a) none)
  | _, _ => none
def bT (P : Program) (f : FuncId) : Option ia := match P.funcs[f]? with
 | none => none
 | some fn => if fn.name == "runtime.NumGoroutine" then none else match fn.body with
  | none => none
  | some c => match fn.results.toList.mapM (pW P), gA P fn.ntmps c with
   | some rs, some ac => some ⟨fn.ntmps, rs, ac, ac.nm⟩
   | _, _ => none
end Go.Ve
