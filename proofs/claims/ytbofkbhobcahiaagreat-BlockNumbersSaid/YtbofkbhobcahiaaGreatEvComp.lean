/- The program's operations and code as the ghost evaluator takes them. Definitions alone. -/
import Derived.Test.YtbofkbhobcahiaaGreatEvCore
namespace Go.Ev
noncomputable section

def packB : List UInt8 → Nat
  | [] => 0
  | b :: l => b.toNat + 256 * packB l

/-- A constant that is one cell. -/
def ofCell : Value → Option GV
  | .bool b => some (.bool b)
  | .int k z => some (.int k z)
  | .string s => some (.str s.data.toList.length (packB s.data.toList))
  | .pointer none => some .nilp
  | .slice none 0 0 => some .nils
  | .nilFunc => some .nilf
  | .chan none => some .nilc
  | _ => none
def ofCells : List Value → Option (List GV)
  | [] => some []
  | v :: vs => match ofCell v, ofCells vs with | some g, some gs => some (g :: gs) | _, _ => none
def ofConst (v : Value) : Option GV :=
  match v with
  | .agg cs => (ofCells cs.toList).map .agg
  | v => ofCell v

def compOpd : Operand → Option Opd
  | .tmp t => some (.t t)
  | .const v => (ofConst v).map .c
  | .func f => some (.c (.fn (Pos.of f) []))
  | .global _ => none

def compOpds : List Operand → Option (List Opd)
  | [] => some []
  | x :: xs => match compOpd x, compOpds xs with | some y, some ys => some (y :: ys) | _, _ => none
def compO : Option Operand → Option (Option Opd)
  | none => some none
  | some x => (compOpd x).map some

def szOf (P : Program) (t : TypeId) : Option Nat := (P.info? t).map (·.size)
def byOf (P : Program) (t : TypeId) : Option Nat := (P.info? t).map (·.bytes)
def isAggT (P : Program) (t : TypeId) : Option Bool := (P.underlying t).map fun d => match d with | .struct _ => true | .array _ _ => true | _ => false
def zeroOf (P : Program) (t : TypeId) : Option (List GV) := match P.info? t with | some i => (match i.zero with | some v => ofCells v.cells.toList | none => none) | none => none
def pkOf (P : Program) (t : TypeId) : PK := match P.underlying t with | some (.int k) => some (k, k.bits) | _ => none

/-- The kinds of a type's cells, if its values are compared cell by cell, in order: 0 truth values, 1 numbers, 2 texts. -/
def flatF (P : Program) (r : TypeId → Option (List Nat)) : Nat → List Field → Option (List Nat)
  | _, [] => some []
  | off, f :: fs => if f.name != "_" && f.offset == off then (match r f.type with
    | some ks => if szOf P f.type = some ks.length then (flatF P r (off + ks.length) fs).map (ks ++ ·) else none
    | none => none) else none
def repN (ks : List Nat) : Nat → List Nat
  | 0 => []
  | n + 1 => ks ++ repN ks n
def flat (P : Program) : Nat → TypeId → Option (List Nat)
  | 0, _ => none
  | d + 1, t =>
    match P.underlying t with
    | some .bool => some [0]
    | some (.int _) => some [1]
    | some .string => some [2]
    | some (.struct fs) => if P.stoodInHeld t then none else flatF P (flat P d) 0 fs.toList
    | some (.array n e) => (match flat P d e with | some ks => if szOf P e = some ks.length then some (repN ks n) else none | none => none)
    | _ => none

/-- Packed zeros are the type's zeros. -/
def zOk (pk : PK) (z : List GV) : Bool :=
  match pk, z with
  | none, _ => true
  | some (k, _), [.int k' (.ofNat 0)] => ikEq k k'
  | _, _ => false
def placeS (P : Program) (fs : Array Field) (i : Nat) : Option (Nat × Nat) := match fs[i]? with | some f => (szOf P f.type).map fun n => (f.offset, n) | none => none
def compParts (place : Nat → Option (Nat × Nat)) : List (Nat × Operand) → Option (List (Nat × Nat × Opd))
  | [] => some []
  | (i, x) :: l => match place i, compOpd x, compParts place l with | some (o, n), some y, some ys => some ((o, n, y) :: ys) | _, _, _ => none

def compBin (P : Program) (op : BinOp) (t : TypeId) (x y : Opd) : Option GOp :=
  match op with
  | .eql | .neq =>
    match P.underlying t with
    | some .bool => some (.p (if op = .eql then .eqlB x y else .neqB x y))
    | some (.int _) | some .string => some (.p (.bin op x y))
    | some (.pointer _) => some (.p (if op = .eql then .eqlN 0 x y else .neqN 0 x y))
    | some (.slice _) => some (.p (if op = .eql then .eqlN 1 x y else .neqN 1 x y))
    | some (.func _ _ _) => some (.p (if op = .eql then .eqlN 2 x y else .neqN 2 x y))
    | some (.struct _) | some (.array _ _) => if P.eqGuardType P.depth t then none else (match flat P 100 t with | some ks => if szOf P t = some ks.length then some (.p (if op = .eql then .eqlA ks x y else .neqA ks x y)) else none | none => none)
    | _ => none
  | op => some (.p (.bin op x y))

def compOp (P : Program) (o : Oper) : Option GOp :=
  match o.op with
  | .move x | .assign x => (compOpd x).map fun x => .p (.mv x)
  | .pick c a b => match compOpd c, compOpd a, compOpd b with | some c, some a, some b => some (.p (.pick c a b)) | _, _, _ => none
  | .nilCheck x => (compOpd x).map fun x => .p (.nilck x)
  | .fieldAddr s x f =>
    match P.underlying s, compOpd x with
    | some (.struct fs), some x => (match fs[f]? with
      | some fd => (match szOf P fd.type with | some n => if n = 0 then none else some (.p (.fa fd.offset x)) | none => none)
      | none => none)
    | _, _ => none
  | .field s x f =>
    match P.underlying s, compOpd x with
    | some (.struct fs), some x => (match fs[f]? with
      | some fd => (match szOf P fd.type, isAggT P fd.type with | some n, some g => if g || n = 1 then some (.p (.fld g fd.offset n x)) else none | _, _ => none)
      | none => none)
    | _, _ => none
  | .indexAddr t x i =>
    match P.underlying t, compOpd x, compOpd i with
    | some (.slice e), some x, some i => (szOf P e).map fun n => .p (.idxS n x i)
    | some (.array len e), some x, some i => (szOf P e).map fun n => .p (.idxA len n x i)
    | _, _, _ => none
  | .index t x i =>
    match P.underlying t, compOpd x, compOpd i with
    | some .string, some x, some i => some (.p (.idxStr x i))
    | some (.array len e), some x, some i => (match szOf P e, isAggT P e with | some n, some g => if g || n = 1 then some (.p (.idxG g len n x i)) else none | _, _ => none)
    | _, _, _ => none
  | .load t x => match isAggT P t, szOf P t, compOpd x with | some true, some n, some x => some (.r (.ldN n x)) | some false, some _, some x => some (.r (.ld1 x)) | _, _, _ => none
  | .store t x v => match isAggT P t, szOf P t, compOpd x, compOpd v with | some true, some n, some x, some v => some (.w (.stN n x v)) | some false, some n, some x, some v => if n = 1 then some (.w (.st1 x v)) else none | _, _, _, _ => none
  | .alloc t => (zeroOf P t).map fun z => .n (.alloc z)
  | .box _ x => (compOpd x).map fun x => .n (.box x)
  | .build t ps =>
    match P.underlying t, zeroOf P t with
    | some (.struct fs), some z => if fs.all fun f => (szOf P f.type).isSome then (compParts (placeS P fs) ps.toList).map fun ps => .p (.build z ps) else none
    | some (.array _ e), some z => (match szOf P e with | some n => (compParts (fun i => some (i * n, n)) ps.toList).map fun ps => .p (.build z ps) | none => none)
    | _, _ => none
  | .buildSlice t len ps =>
    match P.underlying t with
    | some (.slice e) => (match szOf P e, zeroOf P e with
      | some n, some z => if len * n > 2 ^ 24 then none else if z.length != n then none else (compParts (fun i => some (i * n, n)) ps.toList).map fun ps => .n (.buildS (rep z len) len n (pkOf P e) ps)
      | _, _ => none)
    | _ => none
  | .makeSlice t a b =>
    match P.underlying t, compOpd a, compOpd b with
    | some (.slice e), some a, some b => (match szOf P e, byOf P e, zeroOf P e with | some n, some by_, some z => if z.length = n && zOk (pkOf P e) z then some (.n (.makeS z n by_ (pkOf P e) a b)) else none | _, _, _ => none)
    | _, _, _ => none
  | .slice t x lo hi mx =>
    match P.underlying t, compOpd x, compO lo, compO hi, compO mx with
    | some (.slice e), some x, some lo, some hi, some mx => (match szOf P e with | some n => if mx.isSome && hi.isNone then none else if n = 0 then none else some (.p (.slS n lo hi mx x)) | none => none)
    | some (.array len e), some x, some lo, some hi, some mx => (match szOf P e with | some n => if mx.isSome && hi.isNone then none else some (.p (.slA len n lo hi mx x)) | none => none)
    | some (.pointer a), some x, some lo, some hi, some mx => (match P.underlying a with
      | some (.array len e) => (match szOf P e with | some n => if mx.isSome && hi.isNone then none else some (.p (.slA len n lo hi mx x)) | none => none)
      | _ => none)
    | _, _, _, _, _ => none
  | .binOp op t x y _ => match compOpd x, compOpd y with | some x, some y => compBin P op t x y | _, _ => none
  | .unOp op _ x => match op, compOpd x with | .not, some x => some (.p (.not x)) | .neg, some x => some (.p (.neg x)) | .xor, some x => some (.p (.cpl x)) | _, _ => none
  | .convert s d x =>
    match P.underlying s, P.underlying d, compOpd x with
    | some (.int _), some (.int k), some x => some (.p (.conv k x))
    | some (.slice e), some .string, some x => (match P.underlying e with | some (.int .u8) => some (.r (.str x)) | _ => none)
    | some (.slice _), some (.slice e), some x => if s == d then (match P.underlying e with | some (.int .u8) => some (.n (.conv x)) | _ => none) else none
    | _, _, _ => none
  | .extract x i => (compOpd x).map fun x => .p (.ext i x)
  | .makeFunc f first caps => match f, first.toList, compOpds caps.toList with | .func f, [], some cs => some (.p (.mkFn (Pos.of f) cs)) | _, _, _ => none
  | .makeChan t n => match P.underlying t, compOpd n with | some (.chan _ e), some n => (match byOf P e with | some b => if b = 1 then some (.n (.chan n)) else none | none => none) | _, _ => none
  | .call c =>
    match c.callee, compOpds c.args.toList with
    | .value (.func f), some args => some (.call (Pos.of f) args)
    | .value x, some args => (compOpd x).map fun x => .callv x args
    | .builtin b, some args =>
      (match b, args, (c.argTypes[0]?).map P.underlying with
      | .len, [x], some (some (.slice _)) => some (.p (.lenS x))
      | .len, [x], some (some .string) => some (.p (.lenStr x))
      | .len, [_], some (some (.array n _)) => some (.p (.mv (.c (.int .i64 n))))
      | .len, [x], some (some (.chan _ _)) => some (.r (.lenC x))
      | .min, [x, y], _ => some (.p (.min x y))
      | .max, [x, y], _ => some (.p (.max x y))
      | .append, [s, x], some (some (.slice e)) => (match (c.argTypes[1]?).map P.underlying, szOf P e, byOf P e with
        | some (some (.slice _)), some n, some by_ => if n = 0 || by_ = 0 || (zeroOf P e).map (·.length) != some n then none else some (.n (.append n by_ (pkOf P e) s x))
        | _, _, _ => none)
      | .copy, [d, x], some (some (.slice e)) => (szOf P e).map fun n => .n (.copy n d x)
      | .clear, [x], some (some (.slice e)) => (match zeroOf P e, szOf P e with | some z, some n => if z.length = n && zOk (pkOf P e) z then some (.n (.clear z n (pkOf P e) x)) else none | _, _ => none)
      | _, _, _ => none)
    | _, _ => none
  | _ => none

/-- What a function's code may name: nargs arguments, nt slots; tr: the slots that are kept from region to region. -/
structure Cx where
  nargs : Nat
  nt : Nat
  tr : List Nat

def dstOk (c : Cx) : Option Tmp → Bool
  | none => true
  | some d => Nat.blt d c.nt && (c.tr.contains d || !Nat.blt d c.nargs)

def compGuard (ops : Array Oper) : Option (Nat × Bool) → Option (Option (Nat × Bool))
  | none => some none
  | some (j, want) => match (ops[j]?).bind (·.dst) with | some d => some (some (d, want)) | none => none

def compOper (P : Program) (c : Cx) (ops : Array Oper) (o : Oper) : Option GOper :=
  if dstOk c o.dst then
    match compGuard ops o.guard, compOp P o with
    | some g, some op => some ⟨o.dst, g, op⟩
    | _, _ => none
  else none
def compOpers (P : Program) (c : Cx) (ops : Array Oper) : List Oper → Option (List GOper)
  | [] => some []
  | o :: l => match compOper P c ops o, compOpers P c ops l with | some g, some gs => some (g :: gs) | _, _ => none

def outsOf (c : Cx) : List Oper → List Nat
  | [] => []
  | o :: l => match o.dst with
    | some d => if c.tr.contains d then (if (outsOf c l).contains d then outsOf c l else d :: outsOf c l) else outsOf c l
    | none => outsOf c l

/-! Regions that draw their order. -/
inductive Cls where
  | p | r | w | a | e | v
  deriving DecidableEq
def clsOf : GOp → Cls
  | .p _ => .p
  | .r _ => .r
  | .w _ => .w
  | .n (.append ..) => .e
  | .n (.copy ..) => .e
  | .n (.clear ..) => .e
  | .n (.conv ..) => .v
  | .n _ => .a
  | .call .. => .e
  | .callv .. => .e

/-- The operations that each waits for, by the edges that bind in every mode: a number's bits. -/
def ancs : List Oper → List Nat → List Nat
  | [], acc => acc
  | o :: l, acc => ancs l (acc ++ [o.after.toList.foldl (fun s e => if Region.binds .any e then s ||| 2 ^ e.on ||| acc.getD e.on 0 else s) 0])

def ordd (A : List Nat) (i j : Nat) : Bool := (A.getD j 0).testBit i

def slotsOk (ops : Array Oper) (A : List Nat) (i j : Nat) (x y : Oper) : Bool :=
  (match x.dst with | some d => !((y.looksAt ops).contains d || y.dst == some d) || ordd A i j | none => true) &&
  (match y.dst with | some d => !(x.looksAt ops).contains d || ordd A i j | none => true)

/-- What number i ahead of number j in the text asks. -/
def pairOk (A : List Nat) (i j : Nat) (x y : Cls) : Bool :=
  match x, y with
  | .e, .e => ordd A i j
  | .a, .e => ordd A i j
  | .a, .w => ordd A i j
  | .e, .w => ordd A i j
  | .w, .e => false
  | .w, .w => ordd A i j
  | _, _ => true

def allPairs (n : Nat) (f : Nat → Nat → Bool) : Bool := (List.range n).all fun j => (List.range j).all fun i => f i j

/-- The number of the operation that writes an operand's slot, if it lays a row. -/
def convAt (gs : List GOper) (x : Opd) : Nat :=
  match x with
  | .t d => gs.findIdx fun g => g.dst == some d
  | .c _ => gs.length
/-- A conversion of a row that the region itself has laid. -/
def convOk (A : List Nat) (gs : List GOper) (i : Nat) : Bool :=
  match (gs[i]? : Option GOper) with
  | some ⟨d, none, .n (.conv x)⟩ => d.isSome && Nat.blt (convAt gs x) i && ordd A (convAt gs x) i && ((List.range i).all fun j => Nat.beq j (convAt gs x) || (match (gs[j]? : Option GOper) with | some g => (match g.dst, x with | some e, .t e' => !Nat.beq e e' | _, _ => true) | none => false)) && (match (gs[convAt gs x]? : Option GOper) with | some ⟨_, none, .n (.buildS ..)⟩ => true | _ => false)
  | some ⟨_, some _, .n (.conv _)⟩ => false
  | _ => true
/-- Which looks of number i are to be taken once more. -/
def cksAt (n : Nat) (A : List Nat) (gs : List GOper) (i : Nat) : List (Nat × Nat × ROp) :=
  match (gs[i]? : Option GOper) with
    | some ⟨some t, _, .n (.conv x)⟩ => (List.range n).filterMap fun j => match (gs[j]? : Option GOper) with
      | some g => if (clsOf g.op = .e || clsOf g.op = .w) && Nat.blt (convAt gs x) j then some (t, n - (j + 1), .row x) else none
      | none => none
    | some ⟨some t, _, .r o⟩ => (List.range n).filterMap fun j => match (gs[j]? : Option GOper) with
      | some g => if clsOf g.op = .e || clsOf g.op = .w then (if Nat.blt i j then (if ordd A i j then none else some (t, n - (j + 1), o)) else (if ordd A j i then none else some (t, n - j, o))) else none
      | none => none
    | _ => []
/-- Which looks are to be taken once more: (its slot, the heap's place counted from the last, the look). -/
def cksOf (n : Nat) (A : List Nat) (gs : List GOper) : List (Nat × Nat × ROp) := (List.range n).flatMap (cksAt n A gs)

def edgesLt (ops : List Oper) : Bool := (ops.zipIdx).all fun (o, i) => o.after.all fun e => !Region.binds .any e || Nat.blt e.on i
def drawOk (ops : Array Oper) (gs : List GOper) : Bool :=
  let A := ancs ops.toList []
  let n := ops.size
  edgesLt ops.toList &&
  allPairs n (fun i j => match ops[i]?, ops[j]? with | some x, some y => slotsOk ops A i j x y | _, _ => false) &&
  allPairs n (fun i j => match gs[i]?, gs[j]? with | some x, some y => pairOk A i j (clsOf x.op) (clsOf y.op) | _, _ => false) &&
  ((List.range n).all fun i => convOk A gs i) &&
  (gs.all fun g => match g with | ⟨none, _, .r _⟩ => false | ⟨_, _, .r (.ld1 (.c _))⟩ => false | _ => true) &&
  ((List.range n).all fun i => match ops[i]?, gs[i]? with | some x, some g => (clsOf g.op != .r && clsOf g.op != .v) || (match x.dst with | some d => !(x.looksAt ops).contains d | none => false) || (cksAt n A gs i).isEmpty | _, _ => false) &&
  allPairs n (fun i j => match ops[i]?, ops[j]?, gs[i]? with | some x, some y, some g => (clsOf g.op != .r && clsOf g.op != .v) || (match y.dst with | some d => !(x.looksAt ops).contains d && x.dst != some d | none => true) || (cksAt n A gs i).isEmpty | _, _, _ => false)

def compRegion (P : Program) (c : Cx) (ops : Array Oper) (draw : Bool) : Option RegF :=
  match compOpers P c ops ops.toList with
  | none => none
  | some gs =>
    if draw then
      (if drawOk ops gs then
        some (fun call fr h k => regRunD call fr (outsOf c ops.toList) (cksOf ops.size (ancs ops.toList []) gs) k gs [] [] h) else none)
    else some (fun call fr h k => regRun call fr (outsOf c ops.toList) k gs [] h)

def compCode (P : Program) (c : Cx) : Code → Option GCode
  | .skip => some .skip
  | .label _ => some .skip
  | .ret => some .ret
  | .exit n => some (.exit n)
  | .seq a b => match compCode P c a, compCode P c b with | some a, some b => some (.seq a b) | _, _ => none
  | .cond x a b => match x, compCode P c a, compCode P c b with | .tmp t, some a, some b => some (.cond t (Pos.of t) a b) | .const (.bool u), some a, some b => some (if u then a else b) | _, _, _ => none
  | .block n a => (compCode P c a).map (.block n)
  | .loop a => (compCode P c a).map .loop
  | .scope a => compCode P c a
  | .region _ ops d => (compRegion P c ops d).map .reg
  | _ => none

/-! Results. -/
inductive GRes where
  | t (t : Nat)
  | c1 (t : Nat)
  | cN (t n : Nat)
def compRes (P : Program) : ResultVar → Option GRes
  | .tmp t => some (.t t)
  | .cell a t => match isAggT P t, szOf P t with | some true, some n => some (.cN a n) | some false, some _ => some (.c1 a) | _, _ => none
def compRess (P : Program) : List ResultVar → Option (List GRes)
  | [] => some []
  | x :: l => match compRes P x, compRess P l with | some y, some ys => some (y :: ys) | _, _ => none
def res1 (fr : Tr GV) (h : Heap) : GRes → Option GV
  | .t t => forceG (Tr.get .bad (Pos.of t) fr) some
  | .c1 t => rLd1 (Tr.get .bad (Pos.of t) fr) h
  | .cN t n => rLdN n (Tr.get .bad (Pos.of t) fr) h
def ress (fr : Tr GV) (h : Heap) (k : List GV → R) : List GRes → R
  | [] => k []
  | x :: l => obind (res1 fr h x) fun v => ifb v.isA (ress fr h (fun vs => k (v :: vs)) l) none
def resF : List GRes → ResF
  | [x] => fun fr h k => obind (res1 fr h x) fun v => k v h
  | l => fun fr h k => ress fr h (fun vs => k (.tup vs) h) l

/-- g is f's code: f has so many arguments, and keeps these slots. -/
def Comp (P : Program) (f : Func) (nargs : Nat) (tr : List Nat) (g : GFunc) : Prop :=
  ∃ c rs, f.body = some c ∧ (f.name == "runtime.NumGoroutine") = false ∧ nargs ≤ f.ntmps ∧ compCode P ⟨nargs, f.ntmps, tr⟩ c = some g.body ∧ compRess P f.results.toList = some rs ∧ g.res = resF rs ∧ g.nargs = nargs

end
end Go.Ev
