/-
  An evaluator for closed calls, part B: the evaluator.
-/
import Derived.Test.YtkiakphfgdkdiaaGreatEvA
namespace Go.Proofs.YtkiakphfgdkdiaaGreat
open Go
set_option linter.unusedVariables false

def SENT : Nat := 18446744073709551616

/-- A run that touches no world. -/
def pureRun {α : Type} (P : Program) : Sem α → Option α
  | .pure a => some a
  | .program k => pureRun P (k P)
  | _ => none

/-- All of them. -/
def plainF (p : Value → Bool) : List Value → Bool
  | [] => true
  | v :: l => match p v with
    | true => plainF p l
    | false => false
/-- No address in it. -/
def plainD : Nat → Value → Bool
  | 0, _ => false
  | d + 1, v =>
    match v with
    | .bool _ | .int _ _ | .string _ | .pointer none | .nilFunc | .map none | .slice none _ _ | .nilIface => true
    | .agg ⟨cs⟩ => plainF (plainD d) cs
    | .tuple ⟨cs⟩ => plainF (plainD d) cs
    | .func (.func _) ⟨[]⟩ ⟨[]⟩ => true
    | _ => false
def plainL (d : Nat) (l : List Value) : Bool := plainF (plainD d) l

inductive Ex where
  | normal
  | exit (id : Nat)
  | ret

structure Fr where
  sz : Nat
  T : Tri Value
  marks : List Nat
  round : Option Nat

def Fr.tmp (fr : Fr) (t : Nat) : Value := match fr.T.get t with
  | some v => v
  | none => undef
def Fr.raw (fr : Fr) : Operand → Value
  | .tmp t => fr.tmp t
  | .const v => v
  | .global g => .pointer (some ⟨g, 0, none⟩)
  | .func f => .func (.func f) #[] #[]
def Fr.val (fr : Fr) : Operand → Option Value
  | .tmp t => some (fr.tmp t)
  | .const v => cond (plainD 8 v) (some v) none
  | .global _ => none
  | .func f => some (.func (.func f) #[] #[])
def Fr.vals (fr : Fr) : List Operand → Option (List Value)
  | [] => some []
  | x :: l => match fr.val x with
    | none => none
    | some v => match fr.vals l with
      | none => none
      | some vs => some (v :: vs)
def Fr.put (fr : Fr) (d : Option Tmp) (v : Value) : Fr :=
  match d with
  | none => fr
  | some d => match fr with
    | ⟨sz, T, marks, round⟩ => cond (Nat.blt d sz) ⟨sz, T.set d v, marks, round⟩ ⟨sz, T, marks, round⟩

def M.ofO {α : Type} (o : Option α) : M α := match o with
  | some a => M.pure a
  | none => M.fail

def plainAll (fr : Fr) : List Operand → Bool
  | [] => true
  | x :: l => match plainD 8 (fr.raw x) with
    | true => plainAll fr l
    | false => false

/-- An operation on values without addresses, that touches no memory. -/
def opPure (P : Program) (fr : Fr) (o : Oper) : Option Value :=
  match plainAll fr o.op.operands.toList with
  | true =>
    match pureRun P (execOp fr.raw o) with
    | some (.value v) => cond (plainD 8 v) (some v) none
    | _ => none
  | false => none

def okCell : Value → Bool
  | .agg _ | .tuple _ => false
  | _ => true
def okCells : List Value → Bool
  | [] => true
  | v :: l => match okCell v with
    | true => okCells l
    | false => false

def newCells (elem : TypeId) (cells : List Value) : M Nat := mNew (.cells cells elem)
def newVarM (elem : TypeId) (v : Value) : M Value := (newCells elem v.cells.toList).bind fun n => .pure (.pointer (some ⟨n, 0, none⟩))

/-- How many cells a block has, and of which type. -/
def mSize (n : Nat) : M (Nat × TypeId) := fun
  | ⟨h, next, log⟩ => match h.get n with
    | some (.cells c e) => some ((c.length, e), ⟨h, next, .rd n 0 0 :: log⟩)
    | _ => none

def loadM (P : Program) (t : TypeId) (a : Value) : M Value :=
  match a with
  | .pointer (some ⟨n, off, none⟩) =>
    match pureRun P (isAgg t) with
    | some true => match pureRun P (sizeOf t) with
      | some k => (mRead n off k).bind fun l => .pure (.agg ⟨l⟩)
      | none => .fail
    | some false => (mRead n off 1).bind fun
      | [v] => .pure v
      | _ => .fail
    | none => .fail
  | _ => .fail

def storeM (P : Program) (t : TypeId) (a v : Value) : M Value :=
  match a with
  | .pointer (some ⟨n, off, none⟩) =>
    match pureRun P (sizeOf t) with
    | some k => cond (Nat.beq v.cells.toList.length k && okCells v.cells.toList) ((mWrite n off v.cells.toList).bind fun _ => .pure undef) .fail
    | none => .fail
  | _ => .fail

def fieldAddrM (P : Program) (s : TypeId) (x : Value) (f : Nat) : M Value :=
  match x with
  | .pointer (some ⟨n, off, none⟩) =>
    match pureRun P (underlying s) with
    | some (.struct fs) => match fs[f]? with
      | some fd => match pureRun P (sizeOf fd.type) with
        | some (_ + 1) => .pure (.pointer (some ⟨n, off + fd.offset, none⟩))
        | _ => .fail
      | none => .fail
    | _ => .fail
  | _ => .fail

/-- A natural number out of an integer that is one, below a bound. -/
def natOf (v : Value) : Option Nat := match v with
  | .int _ (.ofNat i) => some i
  | _ => none

def indexAddrM (P : Program) (t : TypeId) (x ix : Value) : M Value :=
  match natOf ix with
  | none => .fail
  | some i =>
    match x with
    | .pointer (some ⟨n, off, none⟩) =>
      match pureRun P (underlying t) with
      | some (.array len elem) => match pureRun P (sizeOf elem) with
        | some k => cond (Nat.blt i len) (.pure (.pointer (some ⟨n, off + i * k, none⟩))) .fail
        | none => .fail
      | _ => .fail
    | .slice (some ⟨n, off, none⟩) len _ =>
      match pureRun P (underlying t) with
      | some (.slice elem) => match pureRun P (sizeOf elem) with
        | some k => cond (Nat.blt i len) (.pure (.pointer (some ⟨n, off + i * k, none⟩))) .fail
        | none => .fail
      | _ => .fail
    | _ => .fail

def indexM (P : Program) (t : TypeId) (x ix : Value) : M Value :=
  match natOf ix, x with
  | some i, .agg ⟨cs⟩ =>
    match pureRun P (underlying t) with
    | some (.array len elem) => match pureRun P (sizeOf elem), pureRun P (isAgg elem) with
      | some 1, some false => cond (Nat.blt i len) (.ofO cs[i]?) .fail
      | _, _ => .fail
    | _ => .fail
  | _, _ => .fail

def partsOf (fr : Fr) : List (Nat × Operand) → Option (List (Nat × Value))
  | [] => some []
  | (i, x) :: l => match fr.val x with
    | none => none
    | some v => match partsOf fr l with
      | none => none
      | some vs => some ((i, v) :: vs)

/-- A run of cells of zero values. -/
def zerosOf (zero : List Value) : Nat → List Value
  | 0 => []
  | n + 1 => zero ++ zerosOf zero n

/-- A part laid over cells at a place of its size. -/
def fillL (place : Nat → Option (Nat × Nat)) (cells : List Value) : List (Nat × Value) → Option (List Value)
  | [] => some cells
  | (i, v) :: rest =>
    match place i with
    | none => none
    | some (off, size) =>
      cond (Nat.beq v.cells.toList.length size && Nat.ble (off + size) cells.length) (fillL place (over cells off v.cells.toList) rest) none

def placesOf (P : Program) : List Field → Option (List (Nat × Nat))
  | [] => some []
  | f :: l => match pureRun P (sizeOf f.type) with
    | none => none
    | some k => match placesOf P l with
      | none => none
      | some ps => some ((f.offset, k) :: ps)

def buildO (P : Program) (t : TypeId) (parts : List (Nat × Value)) : Option Value :=
  match pureRun P (zeroValue t) with
  | none => none
  | some z =>
    cond (plainD 8 z)
      (match pureRun P (underlying t) with
        | some (.struct fs) => match placesOf P fs.toList with
          | some ps => match fillL (fun i => ps[i]?) z.cells.toList parts with
            | some l => some (.agg ⟨l⟩)
            | none => none
          | none => none
        | some (.array _ elem) => match pureRun P (sizeOf elem) with
          | some k => match fillL (fun i => some (i * k, k)) z.cells.toList parts with
            | some l => some (.agg ⟨l⟩)
            | none => none
          | none => none
        | _ => none) none

def buildSliceM (P : Program) (t : TypeId) (len : Nat) (parts : List (Nat × Value)) : M Value :=
  match pureRun P (underlying t) with
  | some (.slice elem) => match pureRun P (sizeOf elem), pureRun P (zeroValue elem) with
    | some (k + 1), some z =>
      cond (plainD 8 z && Nat.beq z.cells.toList.length (k + 1) && Nat.ble (len * (k + 1)) 1000000)
        (match fillL (fun i => some (i * (k + 1), k + 1)) (zerosOf z.cells.toList len) parts with
          | some l => (newCells elem l).bind fun n => .pure (.slice (some ⟨n, 0, none⟩) len len)
          | none => .fail) .fail
    | _, _ => .fail
  | _ => .fail

def eqlM (P : Program) (fr : Fr) (o : Oper) (neg : Bool) (t : TypeId) (a b : Value) : M Value :=
  match pureRun P (underlying t) with
  | some (.pointer _) => match a, b with
    | .pointer none, .pointer none => .pure (.bool (!neg))
    | .pointer (some _), .pointer none | .pointer none, .pointer (some _) => .pure (.bool neg)
    | _, _ => .fail
  | some (.slice _) => match a, b with
    | .slice none _ _, .slice none _ _ => .pure (.bool (!neg))
    | .slice (some _) _ _, .slice none _ _ | .slice none _ _, .slice (some _) _ _ => .pure (.bool neg)
    | _, _ => .fail
  | some (.map _ _) => match a, b with
    | .map none, .map none => .pure (.bool (!neg))
    | .map (some _), .map none | .map none, .map (some _) => .pure (.bool neg)
    | _, _ => .fail
  | some (.func _ _ _) => match a, b with
    | .nilFunc, .nilFunc => .pure (.bool (!neg))
    | .func _ _ _, .nilFunc | .nilFunc, .func _ _ _ => .pure (.bool neg)
    | _, _ => .fail
  | _ => .ofO (opPure P fr o)

/-- The cells of what is appended: n elements of k cells. -/
def appendedM (P : Program) (elem : TypeId) (k : Nat) (zeros : Bool) (x : Value) : M (Nat × List Value) :=
  match zeros with
  | true => match natOf x, pureRun P (zeroValue elem) with
    | some n, some z => cond (plainD 8 z && Nat.beq z.cells.toList.length k && Nat.ble n 100000) (.pure (n, zerosOf z.cells.toList n)) .fail
    | _, _ => .fail
  | false => match x with
    | .slice none 0 _ => .pure (0, [])
    | .slice (some ⟨_, _, some _⟩) 0 _ => .pure (0, [])
    | .slice (some ⟨n, off, none⟩) len _ => (mRead n off (len * k)).bind fun l => .pure (len, l)
    | .string s => cond (Nat.beq k 1) (.pure (s.data.toList.length, s.data.toList.map fun b => .int .u8 b.toNat)) .fail
    | _ => .fail

def isIntT (d : TypeDesc) : Bool := match d with
  | .int _ => true
  | _ => false

def appendM (P : Program) (argTypes : Array TypeId) (s x : Value) : M Value :=
  match argTypes[0]?, argTypes[1]? with
  | some sType, some xType => match pureRun P (underlying sType), pureRun P (underlying xType) with
    | some (.slice elem), some xd => match pureRun P (sizeOf elem), pureRun P (typeInfo elem), pureRun P (zeroValue elem) with
      | some (k' + 1), some ti, some z =>
        let k := k' + 1
        (appendedM P elem k (isIntT xd) x).bind fun (n, new) =>
        cond (okCells new && Nat.ble ((1000 + n) * ti.bytes) 1000000000 && Nat.blt 0 ti.bytes && Nat.beq z.cells.toList.length k)
          (match s with
          | .slice none 0 0 =>
            cond (Nat.beq n 0) (.pure (.slice none 0 0))
              ((newCells elem new).bind fun m => .pure (.slice (some ⟨m, 0, none⟩) n SENT))
          | .slice (some ⟨b, off, none⟩) len cap =>
            cond (Nat.ble ((1000 + len + n) * ti.bytes) 1000000000)
              (cond (Nat.beq n 0 && Nat.ble len cap) (.pure (.slice (some ⟨b, off, none⟩) len cap))
                (cond (Nat.beq cap SENT)
                  ((mSize b).bind fun (sz, e) =>
                    cond (Nat.beq e elem)
                      (cond (Nat.ble (off + (len + n) * k) sz)
                        ((mWrite b (off + len * k) new).bind fun _ => .pure (.slice (some ⟨b, off, none⟩) (len + n) cap))
                        ((mRead b off (len * k)).bind fun old =>
                          (mPut b .dead).bind fun _ =>
                            (newCells elem (old ++ new)).bind fun m => .pure (.slice (some ⟨m, 0, none⟩) (len + n) SENT))) .fail)
                  (cond (Nat.ble (len + n) cap)
                    ((mWrite b (off + len * k) new).bind fun _ => .pure (.slice (some ⟨b, off, none⟩) (len + n) cap))
                    ((mRead b off (len * k)).bind fun old =>
                      (newCells elem (old ++ new)).bind fun m => .pure (.slice (some ⟨m, 0, none⟩) (len + n) SENT))))) .fail
          | _ => .fail) .fail
      | _, _, _ => .fail
    | _, _ => .fail
  | _, _ => .fail

def clearM (P : Program) (argTypes : Array TypeId) (x : Value) : M Value :=
  match argTypes[0]? with
  | some t => match pureRun P (underlying t) with
    | some (.slice elem) => match x with
      | .slice none _ _ => .pure undef
      | .slice (some _) 0 _ => .pure undef
      | .slice (some ⟨b, off, none⟩) (len + 1) _ => match pureRun P (zeroValue elem) with
        | some z => cond (plainD 8 z && okCells z.cells.toList) ((mWrite b off (zerosOf z.cells.toList (len + 1))).bind fun _ => .pure undef) .fail
        | none => .fail
      | _ => .fail
    | _ => .fail
  | none => .fail

def lenM (argTypes : Array TypeId) (P : Program) (x : Value) : M Value :=
  match argTypes[0]? with
  | some t => match pureRun P (underlying t), x with
    | some (.slice _), .slice _ n _ => .pure (goInt n)
    | some (.map _ _), .map none => .pure (goInt 0)
    | some (.map _ _), .map (some r) => (mObj r).bind fun
      | .map es _ => .pure (goInt es.length)
      | _ => .fail
    | some (.array n _), _ => .pure (goInt n)
    | some (.string), .string s => .pure (goInt s.size)
    | some (.pointer arr), _ => match pureRun P (underlying arr) with
      | some (.array n _) => .pure (goInt n)
      | _ => .fail
    | _, _ => .fail
  | none => .fail

def capM (argTypes : Array TypeId) (P : Program) (x : Value) : M Value :=
  match argTypes[0]? with
  | some t => match pureRun P (underlying t), x with
    | some (.slice _), .slice _ _ n => cond (Nat.beq n SENT) .fail (.pure (goInt n))
    | _, _ => .fail
  | none => .fail

/-- A bound of a slice expression that is there, as a number. -/
def boundOf (fr : Fr) (o : Option Operand) : Option (Option Nat) :=
  match o with
  | none => some none
  | some x => match fr.val x with
    | some v => match natOf v with
      | some n => some (some n)
      | none => none
    | none => none

def sliceM (P : Program) (fr : Fr) (o : Oper) (t : TypeId) (x : Value) (lo hi mx : Option Operand) : M Value :=
  match pureRun P (underlying t) with
  | some (.slice elem) =>
    match boundOf fr lo, boundOf fr hi, boundOf fr mx, pureRun P (sizeOf elem) with
    | some l, some h, some m, some (k' + 1) =>
      let k := k' + 1
      match x with
      | .slice (some ⟨b, off, none⟩) len cap =>
        let l := l.getD 0
        let hv := h.getD len
        cond (Nat.ble l hv)
          (cond (Nat.beq cap SENT)
            ((mSize b).bind fun (sz, e) =>
              cond (Nat.beq e elem && (Nat.ble hv len || Nat.ble (off + hv * k) sz))
                (match m with
                | some m =>
                  cond (Nat.ble hv m && (Nat.ble m len || Nat.ble (off + m * k) sz) && h.isSome && Nat.blt m SENT)
                    (.pure (.slice (some ⟨b, cond (Nat.beq m l) off (off + l * k), none⟩) (hv - l) (m - l))) .fail
                | none =>
                  cond (Nat.beq l 0 || Nat.blt l hv || Nat.blt l len)
                    (.pure (.slice (some ⟨b, off + l * k, none⟩) (hv - l) SENT))
                    (cond (Nat.beq l hv) (.pure (.slice (some ⟨0, 0, some 0⟩) 0 SENT)) .fail)) .fail)
            (match m with
              | some m => cond (Nat.ble hv m && Nat.ble m cap && h.isSome && Nat.blt m SENT) (.pure (.slice (some ⟨b, cond (Nat.beq m l) off (off + l * k), none⟩) (hv - l) (m - l))) .fail
              | none => cond (Nat.ble hv cap && Nat.blt cap SENT) (.pure (.slice (some ⟨b, cond (Nat.beq cap l) off (off + l * k), none⟩) (hv - l) (cap - l))) .fail)) .fail
      | .slice none 0 0 => cond (Nat.beq (l.getD 0) 0 && Nat.beq (h.getD 0) 0 && Nat.beq (m.getD 0) 0 && (m.isNone || h.isSome)) (.pure (.slice none 0 0)) .fail
      | _ => .fail
    | _, _, _, _ => .fail
  | some (.array n elem) =>
    match boundOf fr lo, boundOf fr hi, mx, pureRun P (sizeOf elem), x with
    | some l, some h, none, some k, .pointer (some ⟨b, off, none⟩) =>
      let l := l.getD 0
      let hv := h.getD n
      cond (Nat.ble l hv && Nat.ble hv n && Nat.blt n SENT) (.pure (.slice (some ⟨b, cond (Nat.beq n l) off (off + l * k), none⟩) (hv - l) (n - l))) .fail
    | _, _, _, _, _ => .fail
  | _ => .ofO (opPure P fr o)

/-- Bytes out of cells. -/
def bytesOfCells : List Value → ByteArray → Option ByteArray
  | [], acc => some acc
  | .int .u8 n :: l, acc => bytesOfCells l (acc.push (UInt8.ofNat n.toNat))
  | _, _ => none

def convertM (P : Program) (fr : Fr) (o : Oper) (src dst : TypeId) (x : Value) : M Value :=
  match pureRun P (underlying src), pureRun P (underlying dst), x with
  | some .string, some (.slice e), .string s => match pureRun P (underlying e), pureRun P (sizeOf e) with
    | some (.int .u8), some 1 =>
      cond (Nat.ble s.size 1000000000) ((newCells e (s.data.toList.map fun b => .int .u8 b.toNat)).bind fun n => .pure (.slice (some ⟨n, 0, none⟩) s.data.toList.length SENT)) .fail
    | _, _ => .fail
  | some (.slice e), some .string, .slice (some ⟨n, off, none⟩) len _ => match pureRun P (underlying e) with
    | some (.int .u8) => (mRead n off len).bind fun l => match bytesOfCells l .empty with
      | some b => .pure (.string b)
      | none => .fail
    | _ => .fail
  | some (.slice e), some .string, .slice none _ _ => match pureRun P (underlying e) with
    | some (.int .u8) => .pure (.string .empty)
    | _ => .fail
  | _, _, _ => .ofO (opPure P fr o)

def blank (es : List MapEntry) : List MapEntry := es.map fun e => { e with val := .bool true }

def plainKeys : List MapEntry → Bool
  | [] => true
  | e :: l => match plainD 8 e.key with
    | true => plainKeys l
    | false => false

/-- Where a key stands among entries. -/
def findM (P : Program) (kt : TypeId) (key : Value) (es : List MapEntry) : Option (Option Nat) :=
  cond (plainD 8 key && plainKeys es)
    (match pureRun P (Instr.checkKey es.isEmpty 10000 kt key) with
      | some () => match pureRun P (Instr.findKey kt key (blank es)) with
        | some r => some (r.map (·.1))
        | none => none
      | none => none) none

def lookupM (P : Program) (t : TypeId) (x key : Value) (ok : Bool) : M Value :=
  match pureRun P (underlying t) with
  | some (.map kt et) => match pureRun P (zeroValue et) with
    | some z =>
      cond (plainD 8 z)
        (match x with
          | .map (some r) => (mObj r).bind fun
            | .map es _ => match findM P kt key es with
              | some (some i) => match es[i]? with
                | some e => .pure (cond ok (.tuple #[e.val, .bool true]) e.val)
                | none => .fail
              | some none => .pure (cond ok (.tuple #[z, .bool false]) z)
              | none => .fail
            | _ => .fail
          | .map none => match findM P kt key [] with
            | some none => .pure (cond ok (.tuple #[z, .bool false]) z)
            | _ => .fail
          | _ => .fail) .fail
    | none => .fail
  | _ => .fail

def setAt : List MapEntry → Nat → Value → Value → List MapEntry
  | [], _, _, _ => []
  | e :: l, 0, k, v => { e with key := k, val := v } :: l
  | e :: l, i + 1, k, v => e :: setAt l i k v

def mapUpdateM (P : Program) (t : TypeId) (m key v : Value) : M Value :=
  match pureRun P (underlying t), m with
  | some (.map kt _), .map (some r) => (mObj r).bind fun
    | .map es clock => match pureRun P (Instr.checkKey false 10000 kt key), findM P kt key es with
      | some (), some (some i) => match es[i]? with
        | some e => match Instr.sameBits 10000 e.key key with
          | true => (mPut r (.map (setAt es i key v) clock)).bind fun _ => .pure undef
          | false => .fail
        | none => .fail
      | some (), some none => (mPut r (.map (es ++ [{ key, val := v, born := clock }]) (clock + 1))).bind fun _ => .pure undef
      | _, _ => .fail
    | _ => .fail
  | _, _ => .fail

def rangeM (P : Program) (t : TypeId) (x : Value) : M Value :=
  match pureRun P (underlying t), x with
  | some (.map _ _), .map none => (mNew (.iter none 0 [] 0)).bind fun n => .pure (.pointer (some ⟨n, 0, none⟩))
  | some (.map _ _), .map (some m) => (mObj m).bind fun
    | .map _ clock => (mNew (.iter (some m) clock [] clock)).bind fun n => .pure (.pointer (some ⟨n, 0, none⟩))
    | _ => .fail
  | _, _ => .fail

def nextM (it : Value) (isString : Bool) : M Value :=
  match it, isString with
  | .pointer (some ⟨n, 0, none⟩), false => (mObj n).bind fun
    | .iter none _ _ _ => .pure (.tuple #[.bool false])
    | .iter (some m) since seen last => (mObj m).bind fun
      | .map es clock =>
        cond (!seen.isEmpty && !es.isEmpty && es.all (fun e => decide (e.born ≥ last))) .fail
          (match es.filter (fun e => !seen.contains e.born) with
            | [] => .pure (.tuple #[.bool false])
            | [e] => cond (Nat.blt e.born since)
                ((mPut n (.iter (some m) since (seen ++ [e.born]) clock)).bind fun _ => .pure (.tuple #[.bool true, e.key, e.val])) .fail
            | _ => .fail)
      | _ => .fail
    | _ => .fail
  | _, _ => .fail

/-! ### Calls -/
/-- Values laid into the first temporaries. -/
def layTmps : List Value → Nat → Tri Value → Tri Value
  | [], _, T => T
  | v :: l, i, T => layTmps l (i + 1) (T.set i v)

def resultM (P : Program) (fr : Fr) : List ResultVar → M (List Value)
  | [] => .pure []
  | .tmp t :: l => (resultM P fr l).bind fun vs => .pure (fr.tmp t :: vs)
  | .cell a t :: l => (loadM P t (fr.tmp a)).bind fun v => (resultM P fr l).bind fun vs => .pure (v :: vs)

def leaveM : List Nat → M Unit
  | [] => .pure ()
  | n :: l => (mObj n).bind fun
    | .marks => (mPut n .dead).bind fun _ => leaveM l
    | _ => .fail

abbrev Run := Code → Fr → M (Ex × Fr)

def pinned (pf : List (FuncId × Value)) (f : FuncId) : Option Value :=
  match pf with
  | [] => none
  | (g, v) :: l => cond (Nat.beq f g) (some v) (pinned l f)

def callM (P : Program) (pf : List (FuncId × Value)) (R : Run) (f : FuncId) (args : List Value) : M Value :=
  match pinned pf f with
  | some v => match args with
    | [] => .pure v
    | _ => .fail
  | none =>
    match P.funcs[f]? with
    | none => .fail
    | some fn =>
      match fn.body with
      | none => .fail
      | some c =>
        cond (fn.name == "runtime.NumGoroutine") .fail
          ((R c { sz := args.length + (fn.ntmps - args.length), T := layTmps args 0 .nil, marks := [], round := none }).bind fun (e, fr) =>
            match e with
            | .exit _ => .fail
            | _ => (leaveM fr.marks).bind fun _ => (resultM P fr fn.results.toList).bind fun
              | [v] => .pure v
              | vs => .pure (.tuple ⟨vs⟩))

def putParams : List Tmp → List Value → Nat → Tri Value → Tri Value
  | t :: ts, v :: vs, sz, T => putParams ts vs sz (cond (Nat.blt t sz) (T.set t v) T)
  | _, _, _, T => T

def Ex.jump : Ex → Option Code
  | .normal => none
  | .exit id => some (Code.exit id)
  | .ret => some Code.ret
def jumpState : Option Code → LoopState
  | none => .ready
  | some _ => .done

/-- One round of a range over a function. -/
def yieldM (R : Run) (l : Nat) (args : List Value) : M Value :=
  (mObj l).bind fun
    | .loop _ _ sz T params assign body d =>
      cond (Nat.beq args.length params.length)
        ((R assign { sz, T := putParams params args sz T, marks := [], round := some l }).bind fun (e, fr) =>
          match e with
          | .normal => (mObj l).bind fun
            | .loop st pending sz' T' params' assign' body' d' =>
              match st with
              | .ready =>
                (mPut l (.loop .busy pending sz' T' params' assign' body' d')).bind fun _ =>
                  (R body fr).bind fun (e, _) =>
                    (mObj l).bind fun
                      | .loop _ _ sz'' T'' params'' assign'' body'' d'' =>
                        (mPut l (.loop (jumpState (Ex.jump e)) (Ex.jump e) sz'' T'' params'' assign'' body'' d'')).bind fun _ =>
                          .pure (.bool (Ex.jump e).isNone)
                      | _ => .fail
              | _ => .fail
            | _ => .fail
          | _ => .fail) .fail
    | _ => .fail

def callValM (P : Program) (pf : List (FuncId × Value)) (R : Run) (f : Value) (args : List Value) : M Value :=
  match f with
  | .func (.func g) ⟨first⟩ ⟨captured⟩ => callM P pf R g (first ++ args ++ captured)
  | .func (.yield l) ⟨[]⟩ ⟨[]⟩ => yieldM R l args
  | _ => .fail

/-- One operation. -/
def evOp (P : Program) (pf : List (FuncId × Value)) (R : Run) (fr : Fr) (o : Oper) : M Value :=
  match o.op with
  | .move x | .assign x => .ofO (fr.val x)
  | .pick c a b => match fr.val c with
    | some (.bool true) => .ofO (fr.val a)
    | some (.bool false) => .ofO (fr.val b)
    | _ => .fail
  | .binOp op t x y _ => match fr.val x, fr.val y with
    | some a, some b => match op with
      | .eql => eqlM P fr o false t a b
      | .neq => eqlM P fr o true t a b
      | _ => .ofO (opPure P fr o)
    | _, _ => .fail
  | .alloc t => match pureRun P (zeroValue t) with
    | some z => cond (plainD 8 z) (newVarM t z) .fail
    | none => .fail
  | .box t x => match fr.val x with
    | some v => newVarM t v
    | none => .fail
  | .load t a => match fr.val a with
    | some v => loadM P t v
    | none => .fail
  | .store t a x => match fr.val a, fr.val x with
    | some p, some v => storeM P t p v
    | _, _ => .fail
  | .nilCheck x => match fr.val x with
    | some (.pointer (some a)) => .pure (.pointer (some a))
    | some (.func (.func g) a b) => .pure (.func (.func g) a b)
    | some (.func (.yield g) a b) => .pure (.func (.yield g) a b)
    | _ => .ofO (opPure P fr o)
  | .fieldAddr s x f => match fr.val x with
    | some v => fieldAddrM P s v f
    | none => .fail
  | .indexAddr t x ix => match fr.val x, fr.val ix with
    | some v, some i => indexAddrM P t v i
    | _, _ => .fail
  | .index t x ix => match fr.val x, fr.val ix with
    | some (.string _), some _ => .ofO (opPure P fr o)
    | some v, some i => indexM P t v i
    | _, _ => .fail
  | .extract x i => match fr.val x with
    | some (.tuple ⟨vs⟩) => .ofO vs[i]?
    | _ => .fail
  | .build t parts => match partsOf fr parts.toList with
    | some ps => .ofO (buildO P t ps)
    | none => .fail
  | .buildSlice t len parts => match partsOf fr parts.toList with
    | some ps => buildSliceM P t len ps
    | none => .fail
  | .makeFunc (.func g) first captured => match fr.vals first.toList, fr.vals captured.toList with
    | some a, some b => .pure (.func (.func g) ⟨a⟩ ⟨b⟩)
    | _, _ => .fail
  | .makeMap _ none => (mNew (.map [] 0)).bind fun n => .pure (.map (some n))
  | .slice t x lo hi mx => match fr.val x with
    | some v => sliceM P fr o t v lo hi mx
    | none => .fail
  | .convert s d x => match fr.val x with
    | some v => convertM P fr o s d v
    | none => .fail
  | .lookup t x k ok => match fr.val x, fr.val k with
    | some m, some key => lookupM P t m key ok
    | _, _ => .fail
  | .mapUpdate t m k x => match fr.val m, fr.val k, fr.val x with
    | some m, some key, some v => mapUpdateM P t m key v
    | _, _, _ => .fail
  | .range t x => match fr.val x with
    | some v => rangeM P t v
    | none => .fail
  | .next it s => match fr.val it with
    | some v => nextM v s
    | none => .fail
  | .call c => match c.callee, fr.vals c.args.toList with
    | .value f, some args => match fr.val f with
      | some fv => callValM P pf R fv args
      | none => .fail
    | .builtin .len, some [x] => lenM c.argTypes P x
    | .builtin .cap, some [x] => capM c.argTypes P x
    | .builtin .append, some [s, x] => appendM P c.argTypes s x
    | .builtin .clear, some [x] => clearM P c.argTypes x
    | .builtin _, _ => .ofO (opPure P fr o)
    | _, _ => .fail
  | .select _ _ | .defer _ | .go _ => .fail
  | _ => .ofO (opPure P fr o)

/-- Whether an operation is done. -/
def wantedF (ops : Array Oper) (fr : Fr) (o : Oper) : Bool :=
  match o.guard with
  | none => true
  | some (j, want) => match ops[j]? with
    | some g => match g.dst with
      | some d => match fr.tmp d with
        | .bool b => cond b want (!want)
        | _ => false
      | none => false
    | none => false

def evOpAt (P : Program) (pf : List (FuncId × Value)) (R : Run) (ops : Array Oper) (fr : Fr) (i : Nat) : M Fr :=
  match ops[i]? with
  | none => .fail
  | some o => cond (wantedF ops fr o) ((evOp P pf R fr o).bind fun v => .pure (fr.put o.dst v)) (.pure (fr.put o.dst undef))

def evOps (P : Program) (pf : List (FuncId × Value)) (R : Run) (ops : Array Oper) : List Nat → Fr → M Fr
  | [], fr => .pure fr
  | i :: l, fr => (evOpAt P pf R ops fr i).bind fun fr => evOps P pf R ops l fr

/-! ### A region that draws its order -/
structure Rec where
  i : Nat
  lo : Nat
  hi : Nat
  ext : List Ac

def Ac.name : Ac → Nat
  | .rd n _ _ | .rdo n | .wr n _ _ | .put n _ => n

/-- The cells from a on, so many, and those from b on, so many: one in both? -/
def meets (a n b m : Nat) : Bool := Nat.blt a (b + m) && Nat.blt b (a + n)

/-- May what the first one did matter to the second? (One writes what the other one reads or writes.) -/
def clash : Ac → Ac → Bool
  | .rd .., .rd .. | .rd .., .rdo _ | .rdo _, .rd .. | .rdo _, .rdo _ => false
  | .wr n lo vs, .rd m lo' len => Nat.beq n m && meets lo vs.length lo' len
  | .rd m lo' len, .wr n lo vs => Nat.beq n m && meets lo vs.length lo' len
  | .wr n lo vs, .wr m lo' vs' => Nat.beq n m && meets lo vs.length lo' vs'.length
  | .wr n _ _, .rdo m | .rdo m, .wr n _ _ => Nat.beq n m
  | .put n _, y => Nat.beq n y.name
  | y, .put n _ => Nat.beq n y.name

def clashes : List Ac → List Ac → Bool
  | [], _ => false
  | x :: l, k => match k.any (clash x) with
    | true => true
    | false => clashes l k

def writesAny : List Ac → Bool
  | [] => false
  | .wr _ _ _ :: _ => true
  | .put _ _ :: _ => true
  | _ :: l => writesAny l

/-- The earlier one, and the later one, do not matter to one another. -/
def apartRec (x y : Rec) : Bool := !clashes x.ext y.ext

/-- Which operations come ahead of each one, by the edges, as bits. -/
def maskOf (acc : List Nat) (o : Oper) : Nat :=
  o.after.toList.foldl (fun s e => cond (Region.binds .any e) (Nat.lor (Nat.lor s (Nat.pow 2 e.on)) (acc.getD e.on 0)) s) 0
def masksGo : List Oper → List Nat → List Nat
  | [], acc => acc
  | o :: l, acc => masksGo l (acc ++ [maskOf acc o])
def masks (ops : Array Oper) : List Nat := masksGo ops.toList []

def orderedIn (ms : List Nat) (i j : Nat) : Bool := Nat.testBit (ms.getD j 0) i

/-- By the text alone: any two operations that are not in order do not share temporaries; the edges lead back. -/
def pairOk (ops : Array Oper) (ms : List Nat) (i j : Nat) : Bool :=
  orderedIn ms i j || (match ops[i]?, ops[j]? with
    | some x, some y => x.apart ops y && y.apart ops x
    | _, _ => false)
def textOk (ops : Array Oper) : Bool :=
  let ms := masks ops
  let r := List.range ops.size
  r.all (fun j => r.all fun i => !Nat.blt i j || pairOk ops ms i j) &&
  r.all (fun j => match ops[j]? with
    | some o => o.after.toList.all (fun e => !Region.binds .any e || Nat.blt e.on j) && (match o.op with | .select _ _ => false | .defer _ => false | _ => true)
    | none => false)

def againstAll (ms : List Nat) (x : Rec) : List Rec → Bool
  | [] => true
  | y :: l => match orderedIn ms x.i y.i || apartRec x y with
    | true => againstAll ms x l
    | false => false
def allApart (ms : List Nat) : List Rec → Bool
  | [] => true
  | x :: l => match againstAll ms x l with
    | true => allApart ms l
    | false => false

/-- The operations in the order of the text, what each did told apart. -/
def drawGo (P : Program) (pf : List (FuncId × Value)) (R : Run) (ops : Array Oper) : List Nat → Fr → M (Fr × List Rec)
  | [], fr => .pure (fr, [])
  | i :: l, fr => fun
    | ⟨h, next, log⟩ => match evOpAt P pf R ops fr i ⟨h, next, []⟩ with
      | none => none
      | some (fr', ⟨h1, next1, log1⟩) =>
        match drawGo P pf R ops l fr' ⟨h1, next1, log1 ++ log⟩ with
        | none => none
        | some ((fr'', recs), s2) => some ((fr'', { i, lo := next, hi := next1, ext := log1 } :: recs), s2)

def drawM (P : Program) (pf : List (FuncId × Value)) (R : Run) (ops : Array Oper) (fr : Fr) : M Fr :=
  cond (textOk ops)
    (fun s => match drawGo P pf R ops (List.range ops.size) fr s with
      | none => none
      | some ((fr', recs), s') => cond (allApart (masks ops) recs) (some (fr', s')) none) .fail

/-- A range over a function. -/
def rangeFuncM (P : Program) (pf : List (FuncId × Value)) (R : Run) (g : Operand) (ps : Array Tmp) (assign body : Code) (fr : Fr) : M (Ex × Fr) :=
  match fr.round with
  | some _ => .fail
  | none => match fr.val g with
    | some (.func (.func f) ⟨first⟩ ⟨captured⟩) =>
      (mNew .marks).bind fun d =>
        (mNew (.loop .ready none fr.sz fr.T ps.toList assign body d)).bind fun l =>
          (callM P pf R f (first ++ [.func (.yield l) #[] #[]] ++ captured)).bind fun _ =>
            (mObj l).bind fun
              | .loop st pending sz T params assign' body' d' =>
                match st with
                | .busy => .fail
                | _ => (mPut l (.loop .exhausted pending sz T params assign' body' d')).bind fun _ =>
                  match (match fr with | ⟨sz0, T0, marks0, round0⟩ => (⟨sz0, T0, d :: marks0, round0⟩ : Fr)) with
                  | fr' => match pending with
                  | none => .pure (.normal, fr')
                  | some (.exit id) => .pure (.exit id, fr')
                  | some .ret => .pure (.ret, fr')
                  | _ => .fail
              | _ => .fail
    | _ => .fail

def evStep (P : Program) (pf : List (FuncId × Value)) (R : Run) : Run := fun c fr =>
  match c with
  | .skip => .pure (.normal, fr)
  | .seq a b => (R a fr).bind fun (e, fr) => match e with
    | .normal => R b fr
    | e => .pure (e, fr)
  | .cond x a b => match fr.val x with
    | some (.bool true) => R a fr
    | some (.bool false) => R b fr
    | _ => .fail
  | .block id b => (R b fr).bind fun (e, fr) => match e with
    | .exit j => cond (Nat.beq j id) (.pure (.normal, fr)) (.pure (.exit j, fr))
    | e => .pure (e, fr)
  | .loop b => (R b fr).bind fun (e, fr) => match e with
    | .normal => R (.loop b) fr
    | e => .pure (e, fr)
  | .exit id => .pure (.exit id, fr)
  | .ret => .pure (.ret, fr)
  | .region _ ops false => (evOps P pf R ops (List.range ops.size) fr).bind fun fr => .pure (.normal, fr)
  | .region _ ops true => (drawM P pf R ops fr).bind fun fr => .pure (.normal, fr)
  | .rangeFunc g ps assign body => rangeFuncM P pf R g ps assign body fr
  | _ => .fail

def evCode (P : Program) (pf : List (FuncId × Value)) : Nat → Run
  | 0 => fun _ _ => .fail
  | n + 1 => evStep P pf (evCode P pf n)

/-- A call. -/
def evCall (P : Program) (pf : List (FuncId × Value)) (fuel : Nat) (f : FuncId) (args : List Value) : Option (Value × HS) :=
  callM P pf (evCode P pf fuel) f args { h := .nil, next := 0, log := [] }

end Go.Proofs.YtkiakphfgdkdiaaGreat
