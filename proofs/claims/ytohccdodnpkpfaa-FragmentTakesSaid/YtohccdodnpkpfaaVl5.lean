/- Value logic, part 5: from the model's code to code over abstract values; what a call and a piece of code are asked to do. -/
import Derived.Test.YtohccdodnpkpfaaVl4
set_option linter.unusedVariables false
set_option linter.unusedSimpArgs false
namespace Go.VL
open Go.RowKit

/-! ### From code to code -/
def ofC1 : Value → Option AV
  | .slice none 0 0 => some (.sl [] .full)
  | .slice _ _ _ | .agg _ | .tuple _ => none
  | x => some (.v x)
def ofCL : List Value → Option (List AV)
  | [] => some []
  | x :: r => match ofC1 x, ofCL r with
    | some a, some as => some (a :: as)
    | _, _ => none
def ofC : Value → Option AV
  | .agg cs => (ofCL cs.toList).map .agg
  | x => ofC1 x

def trOD : Operand → Option OD
  | .tmp n => some (.t n)
  | .const v => (ofC v).map .k
  | .func f => some (.k (.fn (.func f) [] []))
  | .global _ => none
def trODs : List Operand → Option (List OD)
  | [] => some []
  | x :: r => match trOD x, trODs r with
    | some a, some as => some (a :: as)
    | _, _ => none
def trOpt : Option Operand → Option (Option OD)
  | none => some none
  | some x => (trOD x).map some

section
variable (P : Program)
def szOf (t : TypeId) : Option Nat := (P.info? t).map (·.size)
def agOf (t : TypeId) : Option Bool := match P.underlying t with
  | some (.struct _) | some (.array _ _) => some true
  | some _ => some false
  | none => none
def zeroOf (t : TypeId) : Option AV := ((P.info? t).bind (·.zero)).bind ofC

/-- The parts of a struct or an array that is built: where each goes. -/
def trParts (place : Nat → Option (Nat × Nat)) : List (Nat × Operand) → Option (List (Nat × Nat × OD))
  | [] => some []
  | (i, x) :: r => match place i, trOD x, trParts place r with
    | some (off, sz), some a, some as => some ((off, sz, a) :: as)
    | _, _, _ => none
def inOrder : Nat → List (Nat × Operand) → Option (List Operand)
  | _, [] => some []
  | k, (i, x) :: r => if i = k then (inOrder (k + 1) r).map (x :: ·) else none

/-- A type whose values are held against each other cell by cell: is it a struct or an array, and the kinds of its cells. -/
def flatFs (F : TypeId → Option (Bool × List Leaf)) : List Field → Nat → Option (List Leaf)
  | [], _ => some []
  | f :: fs, off => match F f.type with
    | some (ag, ls) => if f.offset = off ∧ f.name ≠ "_" ∧ szOf P f.type = some ls.length ∧ agOf P f.type = some ag ∧ (ag = true ∨ ls.length = 1) then (flatFs F fs (off + ls.length)).map (ls ++ ·) else none
    | none => none
def flatT : Nat → TypeId → Option (Bool × List Leaf)
  | 0, _ => none
  | d + 1, t => match P.underlying t with
    | some .bool => some (false, [.bool])
    | some (.int k) => some (false, [.int k])
    | some .string => some (false, [.str])
    | some (.struct fs) => if P.stoodInHeld t then none else (flatFs P (flatT d) fs.toList 0).map fun ls => (true, ls)
    | some (.array n e) => match flatT d e with
      | some (ag, ls) => if szOf P e = some ls.length ∧ agOf P e = some ag ∧ (ag = true ∨ ls.length = 1) then some (true, (List.replicate n ls).flatten) else none
      | none => none
    | _ => none
/-- A type of keys. -/
def keyLs (t : TypeId) : Option KS := (flatT P 10 t).map fun p => ⟨p.1, p.2⟩

def okBin : BinOp → Bool
  | .add | .sub | .mul | .quo | .rem | .lss | .leq | .gtr | .geq => true
  | _ => false

def trPK (pol : List TypeId) (o : Oper) : Option PK := match o.op with
  | .move x => (trOD x).map .mov
  | .assign x => match x with
    | .const (.slice none 0 0) => if pol.contains (o.type + 1000000) then (match P.underlying o.type with
        | some (.slice e) => (szOf P e).map .newnil
        | _ => none) else (trOD x).map .mov
    | _ => (trOD x).map .mov
  | .pick c a b => match trOD c, trOD a, trOD b with
    | some c, some a, some b => some (.pick c a b)
    | _, _, _ => none
  | .alloc t => (zeroOf P t).map fun z => .alloc z.cells
  | .box t x => match szOf P t, trOD x with
    | some n, some x => some (.box n x)
    | _, _ => none
  | .build t parts => match (P.info? t).bind (·.zero), P.underlying t with
    | some z, some (.struct fs) => match fs.toList.mapM (fun f => (P.info? f.type).map fun i => (f.offset, i.size)), ofCL z.cells.toList with
      | some places, some zc => (trParts (places.toArray[·]?) parts.toList).map (.build zc)
      | _, _ => none
    | some z, some (.array _ e) => match P.info? e, ofCL z.cells.toList with
      | some ie, some zc => (trParts (fun i => some (i * ie.size, ie.size)) parts.toList).map (.build zc)
      | _, _ => none
    | _, _ => none
  | .buildSlice t len parts => match P.underlying t with
    | some (.slice e) => match szOf P e, (inOrder 0 parts.toList).bind trODs with
      | some n, some xs => if xs.length = len ∧ 0 < n ∧ len * n ≤ 16777216 ∧ ((P.info? e).bind (·.zero)).isSome = true then (if pol.contains (t + 2000000) then some (.bslA n xs) else some (.bsl n xs)) else none
      | _, _ => none
    | _ => none
  | .load t a => match szOf P t, trOD a with
    | some n, some a => match agOf P t with
      | some true => some (.load n true a)
      | some false => some (.load 1 false a)
      | none => none
    | _, _ => none
  | .store t a x => match szOf P t, trOD a, trOD x with
    | some n, some a, some x => some (.store n a x)
    | _, _, _ => none
  | .nilCheck x => (trOD x).map .nilc
  | .binOp op t x y _ => match trOD x, trOD y with
    | some a, some b => match op with
      | .eql => match flatT P 10 t with
        | some (ag, ls) => if ag = true → P.eqGuardType P.depth t = false then some (.eq false ⟨ag, ls⟩ a b) else none
        | none => if P.underlying t matches some (.pointer _) then some (.eqn false a b) else none
      | .neq => match flatT P 10 t with
        | some (ag, ls) => if ag = true → P.eqGuardType P.depth t = false then some (.eq true ⟨ag, ls⟩ a b) else none
        | none => if P.underlying t matches some (.pointer _) then some (.eqn true a b) else none
      | op => if okBin op then some (.bin op a b) else none
    | _, _ => none
  | .unOp op _ x => match op with
    | .not => (trOD x).map (.un .not)
    | .neg => (trOD x).map (.un .neg)
    | _ => none
  | .convert s d x => match P.underlying s, P.underlying d with
    | some (.int _), some (.int k) => (trOD x).map (.conv k)
    | some .string, some .string => (trOD x).map .cstr
    | _, _ => none
  | .makeFunc f first cap => match trODs first.toList, trODs cap.toList with
    | some a, some b => some (.mkfn f a b)
    | _, _ => none
  | .makeMap t r => match r with
    | none => some .mkmap
    | _ => none
  | .makeSlice t l c => match P.underlying t with
    | some (.slice e) => match szOf P e, zeroOf P e, (P.info? e).map (·.bytes), trOD l, trOD c with
      | some n, some z, some b, some l, some c => if 0 < n ∧ szOK n z then some (.mksl z n b l c) else none
      | _, _, _, _, _ => none
    | _ => none
  | .slice t x lo hi mx => match P.underlying t, trOD x, trOpt lo, trOpt hi, mx with
    | some .string, some x, some lo, some hi, none => some (.slc 0 x lo hi)
    | some (.slice e), some x, some lo, some hi, none => match szOf P e with
      | some n => if 0 < n then some (.slc n x lo hi) else none
      | none => none
    | _, _, _, _, _ => none
  | .fieldAddr s x f => match P.underlying s, trOD x with
    | some (.struct fs), some x => match fs[f]? with
      | some fd => if szOf P fd.type ≠ some 0 ∧ szOf P fd.type ≠ none then some (.fad x fd.offset) else none
      | none => none
    | _, _ => none
  | .field s x f => match P.underlying s, trOD x with
    | some (.struct fs), some x => match fs[f]? with
      | some fd => match szOf P fd.type with
        | some n => match agOf P fd.type with
          | some true => some (.fld x fd.offset n true)
          | some false => some (.fld x fd.offset 1 false)
          | none => none
        | none => none
      | none => none
    | _, _ => none
  | .indexAddr t x i => match P.underlying t, trOD x, trOD i with
    | some (.slice e), some x, some i => match szOf P e with
      | some n => if 0 < n then some (.iad n x i) else none
      | none => none
    | some (.array len e), some x, some i => match szOf P e with
      | some n => if 1 < len ∧ 0 < n then some (.aad len n x i) else none
      | none => none
    | _, _, _ => none
  | .index t x i => match P.underlying t, trOD x, trOD i with
    | some .string, some x, some i => some (.idx x i)
    | _, _, _ => none
  | .lookup t m k ok => match P.underlying t, trOD m, trOD k with
    | some (.map kt e), some m, some k => match keyLs P kt, zeroOf P e with
      | some ls, some z => some (.look ls z ok m k)
      | _, _ => none
    | _, _, _ => none
  | .mapUpdate t m k x | .insert t m k x => match P.underlying t, trOD m, trOD k, trOD x with
    | some (.map kt e), some m, some k, some x => (keyLs P kt).map fun ls => .mupd ls m k x
    | _, _, _, _ => none
  | .mapEntry t m k => match P.underlying t, trOD m, trOD k with
    | some (.map kt e), some m, some k => match keyLs P kt, zeroOf P e with
      | some ls, some z => some (.ment ls z m k)
      | _, _ => none
    | _, _, _ => none
  | .entryStore t m s x => match trOD m, trOD s, trOD x with
    | some m, some s, some x => some (.mest m s x)
    | _, _, _ => none
  | .range t x => match P.underlying t with
    | some .string => (trOD x).map .rngS
    | some (.map _ _) => (trOD x).map .rngM
    | _ => none
  | .next x isString => if isString then (trOD x).map .nxtS else none
  | .extract x i => (trOD x).map fun x => .ext x i
  | .makeInterface t x => match P.underlying t with
    | some (.interface _) => none
    | some _ => (trOD x).map (.mki t)
    | none => none
  | .call c => match c.callee with
    | .builtin .len => match c.args.toList, c.argTypes.toList with
      | [x], [t] => match P.underlying t with
        | some .string => (trOD x).map (.len 0)
        | some (.slice _) => (trOD x).map (.len 1)
        | some (.map _ _) => (trOD x).map (.len 2)
        | _ => none
      | _, _ => none
    | .builtin .append => match c.args.toList, c.argTypes.toList with
      | [x, y], [t, u] => if t = u then match P.underlying t, trOD x, trOD y with
        | some (.slice e), some x, some y => match szOf P e, (P.info? e).map (·.bytes), (P.info? e).bind (·.zero) with
          | some n, some b, some z => if 0 < n ∧ 0 < b ∧ z.cells.size = n then (if pol.contains t then some (.appN n b x y) else some (.app n b x y)) else none
          | _, _, _ => none
        | _, _, _ => none
        else none
      | _, _ => none
    | .builtin .delete => match c.args.toList, c.argTypes.toList with
      | [m, k], t :: _ => match P.underlying t, trOD m, trOD k with
        | some (.map kt _), some m, some k => (keyLs P kt).map fun ls => .del ls m k
        | _, _, _ => none
      | _, _ => none
    | .builtin .max => match trODs c.args.toList with
      | some [x, y] => some (.mm true x y)
      | _ => none
    | .builtin .min => match trODs c.args.toList with
      | some [x, y] => some (.mm false x y)
      | _ => none
    | _ => none
  | _ => none

/-- A call: of a known function, of a function value. -/
def trCall (o : Oper) : Option (Nat × List OD) := match o.op with
  | .call c => match c.callee with
    | .value (.func f) => match P.funcs[f]? with
      | some fn => if fn.body.isSome && fn.name != "runtime.NumGoroutine" then (trODs c.args.toList).map fun a => (f, a) else none
      | none => none
    | _ => none
  | _ => none
def trCallV (o : Oper) : Option (OD × List OD) := match o.op with
  | .call c => match c.callee with
    | .value (.tmp n) => (trODs c.args.toList).map fun a => (.t n, a)
    | _ => none
  | _ => none
def trNext (o : Oper) : Option OD := match o.op with
  | .next x false => trOD x
  | _ => none

def dstOK (N : Nat) : Option Tmp → Bool
  | none => true
  | some d => d < N

def trO (pol : List TypeId) (pur : List Nat) (N : Nat) (ops : Array Oper) (o : Oper) : Option PO :=
  if dstOK N o.dst then
    match o.guard with
    | none => match trPK P pol o with
      | some op => some (match o.dst with | some d => .o d op | none => .u op)
      | none => match trCall P o with
        | some (f, a) => match o.dst with
          | some d => if pur.contains f then some (.p d f a) else if pur.contains (f + 1000000) then some (.q d f a) else some (.c (some d) f a)
          | none => some (.c none f a)
        | none => match trCallV o with
          | some (x, a) => some (.cv o.dst x a)
          | none => none
    | some (j, b) => match (ops[j]?).bind (·.dst), o.dst with
      | some jd, some d => match trPK P pol o with
        | some op => some (.g d jd b op)
        | none => match trCall P o with
          | some (f, a) => if pur.contains f then some (.gp d jd b f a) else if pur.contains (f + 1000000) then some (.gq d jd b f a) else some (.gc d jd b f a)
          | none => none
      | _, _ => none
  else none
def trOs (pol : List TypeId) (pur : List Nat) (N : Nat) (ops : Array Oper) : List Oper → Option (List PO)
  | [] => some []
  | o :: r => match trO P pol pur N ops o, trOs pol pur N ops r with
    | some a, some as => some (a :: as)
    | _, _ => none

/-! ### A region that draws its order -/
/-- 0: looks at slots alone; 1: looks at memory; 2: makes a new place; 4: writes a place that is there; 5: appends to a frozen row; 6: a call that only looks; 3: anything else. -/
def PK.kind : PK → Nat
  | .mov _ | .pick _ _ _ | .build _ _ | .bsl _ _ | .bin _ _ _ | .eq _ _ _ _ | .eqn _ _ _ | .un _ _ | .conv _ _ | .cstr _ | .mkfn _ _ _ | .fld _ _ _ _ | .idx _ _ | .ext _ _ | .mm _ _ _ | .mki _ _ => 0
  | .load _ _ _ | .nilc _ | .slc _ _ _ _ | .fad _ _ | .iad _ _ _ | .aad _ _ _ _ | .look _ _ _ _ _ | .len _ _ | .loadB _ _ _ _ => 1
  | .storeB _ _ _ _ | .storeE _ _ _ => 4
  | .appF _ _ _ _ => 5
  | .newnil _ | .alloc _ | .box _ _ | .bslA _ _ | .mkmap => 2
  | _ => 3
def PO.kind : PO → Nat
  | .o _ op | .u op | .g _ _ _ op => op.kind
  | .p _ _ _ | .gp _ _ _ _ _ => 0
  | .q _ _ _ | .gq _ _ _ _ _ => 6
  | _ => 3
def ODs.tmps : List OD → List Nat
  | [] => []
  | .t n :: r => n :: ODs.tmps r
  | .k _ :: r => ODs.tmps r
/-- The operands of an operation. -/
def PK.ods : PK → List OD
  | .mov x | .box _ x | .load _ _ x | .nilc x | .un _ x | .conv _ x | .cstr x | .fad x _ | .fld x _ _ _ | .rngS x | .rngM x | .nxtS x | .ext x _ | .len _ x | .mki _ x => [x]
  | .newnil _ | .alloc _ | .mkmap => []
  | .pick c a b => [c, a, b]
  | .build _ ps => ps.map (·.2.2)
  | .bsl _ xs | .bslA _ xs => xs
  | .store _ a x | .storeE _ a x => [a, x]
  | .storeB _ a x b => [a, x, b]
  | .loadB _ _ a bs => a :: bs
  | .bin _ x y | .eq _ _ x y | .eqn _ x y | .iad _ x y | .aad _ _ x y | .idx x y | .app _ _ x y | .appF _ _ x y | .appN _ _ x y | .cpy _ x y | .mm _ x y => [x, y]
  | .mkfn _ xs ys => xs ++ ys
  | .mksl _ _ _ l c => [l, c]
  | .slc _ x lo hi => x :: (lo.toList ++ hi.toList)
  | .look _ _ _ m k | .ment _ _ m k | .del _ m k => [m, k]
  | .mupd _ m k x | .mest m k x => [m, k, x]
def PO.rd : PO → List Nat
  | .o _ op | .u op => ODs.tmps op.ods
  | .g _ j _ op => j :: ODs.tmps op.ods
  | .c _ _ as | .p _ _ as | .q _ _ as => ODs.tmps as
  | .gc _ j _ _ as | .gp _ j _ _ as | .gq _ j _ _ as => j :: ODs.tmps as
  | .cv _ x as => ODs.tmps (x :: as)
  | .nx _ x => ODs.tmps [x]
def PO.wr : PO → Option Nat
  | .o d _ | .g d _ _ _ | .gc d _ _ _ _ | .p d _ _ | .gp d _ _ _ _ | .q d _ _ | .gq d _ _ _ _ | .nx d _ => some d
  | .u _ => none
  | .c d _ _ | .cv d _ _ => d
def PO.isNx : PO → Bool
  | .nx _ _ => true
  | _ => false
def PO.isCall : PO → Bool
  | .c _ _ _ | .gc _ _ _ _ _ | .cv _ _ _ | .nx _ _ => true
  | _ => false
def PO.pk : PO → Option PK
  | .o _ op | .u op | .g _ _ _ op => some op
  | _ => none
def OD.same : OD → OD → Bool
  | .t n, .t m => n == m
  | _, _ => false
/-- A look that a write of a place does not change. -/
def relS (x i : PK) : Bool := match i with
  | .storeE _ _ _ => match x with
    | .load _ _ _ => false
    | _ => x.kind == 1
  | .storeB _ _ _ b => match x with
    | .load _ _ _ => false
    | .loadB _ _ _ bs => bs.any (OD.same b)
    | _ => x.kind == 1
  | _ => false
def relP (x i : PO) : Bool := match x.pk, i.pk with
  | some a, some b => relS a b
  | _, _ => false
/-- Zero values that may be told to be the same. -/
def zEq1 : AV → AV → Bool
  | .v (.int k a), .v (.int k' b) => k == k' && a == b
  | .v (.pointer none), .v (.pointer none) => true
  | .v (.bool a), .v (.bool b) => a == b
  | .sl [] .full, .sl [] .full => true
  | _, _ => false
/-- A look-up ahead of the entry that it looks for. -/
def relM (x i : PO) : Bool := match x, i with
  | .o _ (.look ks z false m k), .o _ (.ment ks' z' m' k') => ks == ks' && zEq1 z z' && OD.same m m' && OD.same k k'
  | _, _ => false
/-- x may be put behind i. -/
def cm (x i : PO) : Bool :=
  !x.isNx && !i.isNx && (x.wr.all fun d => !i.rd.contains d && i.wr != some d) && (i.wr.all fun d => !x.rd.contains d) &&
  (x.kind == 0 || (i.kind == 0 && !x.isCall) || (x.kind == 1 && i.kind == 1) || (x.kind == 1 && i.kind == 2) || ((x.kind == 1 || x.kind == 6) && (i.kind == 1 || i.kind == 6)) ||
    (x.kind == 1 && i.kind == 4 && relP x i) || (x.kind == 1 && i.kind == 5) || relM x i)
/-- What each operation waits for, as the bits of a number. -/
def reachOf (acc : List Nat) (o : Oper) : Nat := o.after.toList.foldl (fun m e => if Region.binds .any e then m ||| (1 <<< e.on) ||| acc.getD e.on 0 else m) 0
def reaches : List Oper → List Nat → List Nat
  | [], acc => acc
  | o :: r, acc => reaches r (acc ++ [reachOf acc o])
def backs : List Oper → Nat → Bool
  | [], _ => true
  | o :: r, i => (o.after.toList.all fun e => !Region.binds .any e || e.on < i) && backs r (i + 1)
/-- An order in which what only looks comes first. -/
def ordGo (ms : List Nat) (pos : List PO) : Nat → List Nat → Nat → List Nat
  | 0, _, _ => []
  | n + 1, left, dn =>
    let ready i := (ms.getD i 0) &&& dn == ms.getD i 0
    match left.find? fun i => ready i && ((pos[i]?).map fun p => decide (p.kind ≤ 1) || p.kind == 6).getD false with
    | some i => i :: ordGo ms pos n (left.erase i) (dn ||| (1 <<< i))
    | none => match left.find? ready with
      | some i => i :: ordGo ms pos n (left.erase i) (dn ||| (1 <<< i))
      | none => []
def cmAt (pos : List PO) (x i : Nat) : Bool := match pos[x]?, pos[i]? with
  | some a, some b => cm a b
  | _, _ => false
def pairsOK (ms : List Nat) (pos : List PO) : List Nat → Bool
  | [] => true
  | x :: r => (r.all fun i => (ms.getD i 0).testBit x || cmAt pos x i) && pairsOK ms pos r
def nodupB : List Nat → Bool
  | [] => true
  | x :: r => !r.contains x && nodupB r
/-- What an address is reckoned from, where that is settled ahead of the region. -/
def baseOf (pos : List PO) (x : Nat) : Option Nat :=
  match pos.find? fun p => p.wr == some x with
  | none => some x
  | some (.o _ (.fad (.t y) _)) | some (.g _ _ _ (.fad (.t y) _)) => if (pos.any fun p => p.wr == some y) then none else some y
  | _ => none
def isIad (pos : List PO) (x : Nat) : Bool := match pos.find? fun p => p.wr == some x with
  | some (.o _ (.iad _ _ _)) | some (.g _ _ _ (.iad _ _ _)) => true
  | _ => false
/-- The bases of the writes of a region. -/
def storeBases (pos : List PO) : List Nat := pos.filterMap fun
  | .u (.store _ (.t x) _) => if isIad pos x then none else baseOf pos x
  | _ => none
def hasStore (pos : List PO) : Bool := pos.any fun
  | .u (.store _ _ _) => true
  | _ => false
def hardPK (flag : Bool) (pos : List PO) : PK → PK
  | .load n ag (.t x) => if hasStore pos then match baseOf pos x with
      | some b => .loadB n ag (.t x) (((storeBases pos).filter (· != b)).map .t)
      | none => .load n ag (.t x)
    else .load n ag (.t x)
  | .store n (.t x) y => if isIad pos x then .storeE n (.t x) y else match baseOf pos x with
      | some b => .storeB n (.t x) y (.t b)
      | none => .store n (.t x) y
  | .app s b x y => if flag then .appF s b x y else .app s b x y
  | op => op
def hardPO (flag : Bool) (pos : List PO) : PO → PO
  | .o d op => .o d (hardPK flag pos op)
  | .u op => .u (hardPK flag pos op)
  | .g d j b op => .g d j b (hardPK flag pos op)
  | p => p
def trReg (flag : Bool) (ops : Array Oper) (draw : Bool) (pos : List PO) : Option (List PO) :=
  if draw then
    let pos := pos.map (hardPO flag pos)
    let ms := reaches ops.toList []
    let r := ordGo ms pos ops.size (List.range ops.size) 0
    if backs ops.toList 0 && r.length == ops.size && ((List.range ops.size).all fun i => r.contains i) && (r.all fun i => i < ops.size) && nodupB r && pairsOK ms pos r then some (r.filterMap (pos[·]?)) else none
  else some pos

def tr (pol : List TypeId) (pur : List Nat) (N : Nat) : Code → Option PCd
  | .skip => some .skip
  | .seq a b => match tr pol pur N a, tr pol pur N b with
    | some a, some b => some (.seq a b)
    | _, _ => none
  | .region _ ops draw => ((trOs P pol pur N ops ops.toList).bind (trReg (pur.contains 2000000) ops draw)).map .reg
  | .cond c a b => match trOD c, tr pol pur N a, tr pol pur N b with
    | some c, some a, some b => some (.cond c a b)
    | _, _, _ => none
  | .block id a => (tr pol pur N a).map (.block id)
  | .loop a => (tr pol pur N a).map .loop
  | .exit id => some (.exit id)
  | .ret => some .ret
  | _ => none
end
end Go.VL
