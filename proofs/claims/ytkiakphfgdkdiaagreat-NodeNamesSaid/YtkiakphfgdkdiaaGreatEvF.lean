/-
  The evaluator in a form that the kernel bears: continuations, closed cases, trees by paths.
-/
import Derived.Test.YtkiakphfgdkdiaaGreatEvB
namespace Go.Proofs.YtkiakphfgdkdiaaGreat
open Go
set_option linter.unusedVariables false
noncomputable section

inductive Pth where
  | here
  | l (p : Pth)
  | r (p : Pth)
def pathF : Nat → Nat → Pth
  | 0, _ => .here
  | f + 1, n => match Nat.beq n 0 with
    | true => .here
    | false => match Nat.beq (Nat.mod n 2) 1 with
      | true => .l (pathF f (Nat.div (Nat.sub n 1) 2))
      | false => .r (pathF f (Nat.div (Nat.sub n 1) 2))
def path (n : Nat) : Pth := pathF (Nat.succ n) n
def getP {α : Type} : Pth → Tri α → Option α := fun p =>
  Pth.rec (motive := fun _ => Tri α → Option α) (fun t => Tri.rec (motive := fun _ => Option α) none (fun _ v _ _ _ => v) t)
    (fun _ ih t => Tri.rec (motive := fun _ => Option α) none (fun l _ _ _ _ => ih l) t)
    (fun _ ih t => Tri.rec (motive := fun _ => Option α) none (fun _ _ r _ _ => ih r) t) p
def setP {α : Type} : Pth → α → Tri α → Tri α := fun p v =>
  Pth.rec (motive := fun _ => Tri α → Tri α) (fun t => Tri.rec (motive := fun _ => Tri α) (.node .nil (some v) .nil) (fun l _ r _ _ => .node l (some v) r) t)
    (fun _ ih t => Tri.rec (motive := fun _ => Tri α) (.node (ih .nil) none .nil) (fun l x r _ _ => .node (ih l) x r) t)
    (fun _ ih t => Tri.rec (motive := fun _ => Tri α) (.node .nil none (ih .nil)) (fun l x r _ _ => .node l x (ih r)) t) p
def triGo {α : Type} (xs : List α) : Nat → Tri α → Tri α :=
  List.rec (motive := fun _ => Nat → Tri α → Tri α) (fun _ t => t) (fun x _ ih n t => ih (Nat.succ n) (setP (path n) x t)) xs
def triOf {α : Type} (xs : List α) : Tri α := triGo xs 0 .nil

abbrev Ans := Option (Value × HS)
structure Fs where
  sz : Nat
  marks : List Nat
  round : Option Nat
abbrev H := Tri AObj
abbrev L := List Ac
abbrev Kt := Tri Value → H → Nat → L → Ans
abbrev Kv := Value → H → Nat → L → Ans
abbrev Kc := Ex → Fs → Tri Value → H → Nat → L → Ans
abbrev RunF := Code → Fs → Tri Value → H → Nat → L → Nat → Kc → Ans

def iteK {α : Type} (b : Bool) (x y : α) : α := Bool.rec (motive := fun _ => α) y x b
def optK {α β : Type} (o : Option α) (no : β) (yes : α → β) : β := Option.rec (motive := fun _ => β) no yes o

def tmpF (t : Nat) (T : Tri Value) : Value := Option.rec (motive := fun _ => Value) undef (fun v => v) (getP (path t) T)
def valK : Operand → Tri Value → (Value → Ans) → Ans := fun x =>
  Operand.rec (motive := fun _ => Tri Value → (Value → Ans) → Ans) (fun t T k => k (tmpF t T)) (fun v _ k => Bool.rec (motive := fun _ => Ans) none (k v) (plainD 8 v)) (fun _ _ _ => none)
    (fun f _ k => k (.func (.func f) #[] #[])) x
def rawF : Operand → Tri Value → Value := fun x =>
  Operand.rec (motive := fun _ => Tri Value → Value) (fun t T => tmpF t T) (fun v _ => v) (fun g _ => .pointer (some ⟨g, 0, none⟩)) (fun f _ => .func (.func f) #[] #[]) x
def putF (fs : Fs) (d : Option Tmp) (v : Value) (T : Tri Value) : Tri Value :=
  Option.rec (motive := fun _ => Tri Value) T (fun d => Bool.rec (motive := fun _ => Tri Value) T (setP (path d) v T) (Nat.blt d (Fs.sz fs))) d

/-- Cases on a value: an integer that is no less than none; else. -/
def intK (v : Value) (no : Ans) (yes : IntKind → Nat → Ans) : Ans :=
  Value.rec (motive_1 := fun _ => Ans → (IntKind → Nat → Ans) → Ans) (motive_2 := fun _ => Unit) (motive_3 := fun _ => Unit)
    (fun _ no _ => no) (fun k n no yes => Int.rec (motive := fun _ => Ans) (fun m => yes k m) (fun _ => no) n) (fun _ _ no _ => no) (fun _ _ _ no _ => no) (fun _ no _ => no) (fun _ no _ => no)
    (fun _ _ _ no _ => no) (fun _ no _ => no) (fun _ no _ => no) (fun _ _ _ _ _ no _ => no) (fun no _ => no) (fun _ _ _ no _ => no) (fun no _ => no) (fun _ _ no _ => no) (fun _ _ no _ => no)
    (fun _ _ => ()) () (fun _ _ _ _ => ()) v no yes
def boolK (v : Value) (no : Ans) (yes : Bool → Ans) : Ans :=
  Value.rec (motive_1 := fun _ => Ans → (Bool → Ans) → Ans) (motive_2 := fun _ => Unit) (motive_3 := fun _ => Unit)
    (fun b _ yes => yes b) (fun _ _ no _ => no) (fun _ _ no _ => no) (fun _ _ _ no _ => no) (fun _ no _ => no) (fun _ no _ => no)
    (fun _ _ _ no _ => no) (fun _ no _ => no) (fun _ no _ => no) (fun _ _ _ _ _ no _ => no) (fun no _ => no) (fun _ _ _ no _ => no) (fun no _ => no) (fun _ _ no _ => no) (fun _ _ no _ => no)
    (fun _ _ => ()) () (fun _ _ _ _ => ()) v no yes
def addrK (a : Option Addr) (no : Ans) (yes : Nat → Nat → Ans) : Ans :=
  Option.rec (motive := fun _ => Ans) no (fun a => Addr.rec (motive := fun _ => Ans) (fun n off sp => Option.rec (motive := fun _ => Ans) (yes n off) (fun _ => no) sp) a) a
/-- A pointer, or a slice (its address and length). -/
def placeK (v : Value) (no : Ans) (ptr : Nat → Nat → Ans) (sl : Nat → Nat → Nat → Ans) : Ans :=
  Value.rec (motive_1 := fun _ => Ans → (Nat → Nat → Ans) → (Nat → Nat → Nat → Ans) → Ans) (motive_2 := fun _ => Unit) (motive_3 := fun _ => Unit)
    (fun _ no _ _ => no) (fun _ _ no _ _ => no) (fun _ _ no _ _ => no) (fun _ _ _ no _ _ => no) (fun _ no _ _ => no) (fun a no ptr _ => addrK a no ptr)
    (fun a len _ no _ sl => addrK a no (fun n off => sl n off len)) (fun _ no _ _ => no) (fun _ no _ _ => no) (fun _ _ _ _ _ no _ _ => no) (fun no _ _ => no) (fun _ _ _ no _ _ => no) (fun no _ _ => no) (fun _ _ no _ _ => no) (fun _ _ no _ _ => no)
    (fun _ _ => ()) () (fun _ _ _ _ => ()) v no ptr sl
def ptrK (v : Value) (no : Ans) (yes : Nat → Nat → Ans) : Ans := placeK v no yes (fun _ _ _ => no)
/-- The cells of a value. -/
def cellsF (v : Value) : List Value :=
  Value.rec (motive_1 := fun _ => Value → List Value) (motive_2 := fun _ => Unit) (motive_3 := fun _ => Unit)
    (fun _ v => [v]) (fun _ _ v => [v]) (fun _ _ v => [v]) (fun _ _ _ v => [v]) (fun _ v => [v]) (fun _ v => [v])
    (fun _ _ _ v => [v]) (fun _ v => [v]) (fun _ v => [v]) (fun _ _ _ _ _ v => [v]) (fun v => [v]) (fun _ _ _ v => [v]) (fun v => [v]) (fun cs _ _ => Array.toList cs) (fun _ _ v => [v])
    (fun _ _ => ()) () (fun _ _ _ _ => ()) v v
def tupK (v : Value) (no : Ans) (yes : List Value → Ans) : Ans :=
  Value.rec (motive_1 := fun _ => Ans → (List Value → Ans) → Ans) (motive_2 := fun _ => Unit) (motive_3 := fun _ => Unit)
    (fun _ no _ => no) (fun _ _ no _ => no) (fun _ _ no _ => no) (fun _ _ _ no _ => no) (fun _ no _ => no) (fun _ no _ => no)
    (fun _ _ _ no _ => no) (fun _ no _ => no) (fun _ no _ => no) (fun _ _ _ _ _ no _ => no) (fun no _ => no) (fun _ _ _ no _ => no) (fun no _ => no) (fun _ _ no _ => no) (fun vs _ _ yes => yes (Array.toList vs))
    (fun _ _ => ()) () (fun _ _ _ _ => ()) v no yes
def funcK (v : Value) (no : Ans) (yes : Fn → List Value → List Value → Ans) : Ans :=
  Value.rec (motive_1 := fun _ => Ans → (Fn → List Value → List Value → Ans) → Ans) (motive_2 := fun _ => Unit) (motive_3 := fun _ => Unit)
    (fun _ no _ => no) (fun _ _ no _ => no) (fun _ _ no _ => no) (fun _ _ _ no _ => no) (fun _ no _ => no) (fun _ no _ => no)
    (fun _ _ _ no _ => no) (fun _ no _ => no) (fun _ no _ => no) (fun f a b _ _ _ yes => yes f (Array.toList a) (Array.toList b)) (fun no _ => no) (fun _ _ _ no _ => no) (fun no _ => no) (fun _ _ no _ => no) (fun _ _ no _ => no)
    (fun _ _ => ()) () (fun _ _ _ _ => ()) v no yes

/-! ### Types and functions out of trees -/
def tyT (P : Program) : Tri TypeInfo := triOf P.types.toList
def fnT (P : Program) : Tri Func := triOf P.funcs.toList
def descT (P : Program) (t : TypeId) : Option TypeDesc :=
  match getP (path t) (tyT P) with
  | some i => match i.desc with
    | .named _ u => match getP (path u) (tyT P) with
      | some j => some j.desc
      | none => none
    | d => some d
  | none => none
def sizeT (P : Program) (t : TypeId) : Option Nat :=
  match getP (path t) (tyT P) with
  | some i => some i.size
  | none => none
/-- A struct's, or an array's, cells; none: a value of one cell. -/
def shapeT (P : Program) (t : TypeId) : Option (Option Nat) :=
  match descT P t with
  | some (.struct _) | some (.array _ _) => match sizeT P t with
    | some n => some (some n)
    | none => none
  | some _ => some none
  | none => none
def zeroT (P : Program) (t : TypeId) : Option Value :=
  match getP (path t) (tyT P) with
  | some i => match i.zero with
    | some z => match plainD 8 z with
      | true => some z
      | false => none
    | none => none
  | none => none
/-- Where a field lies. -/
def fieldT (P : Program) (t : TypeId) (f : Nat) : Option Nat :=
  match descT P t with
  | some (.struct fs) => match fs.toList[f]? with
    | some fd => match sizeT P fd.type with
      | some (_ + 1) => some fd.offset
      | _ => none
    | none => none
  | _ => none
/-- An array's length and its element's size; a slice's element's size. -/
def elemT (P : Program) (t : TypeId) : Option (Option Nat × Nat) :=
  match descT P t with
  | some (.array n e) => match sizeT P e with
    | some k => some (some n, k)
    | none => none
  | some (.slice e) => match sizeT P e with
    | some k => some (none, k)
    | none => none
  | _ => none

/-! ### The heap -/
def cellsK (o : Option AObj) (yes : List Value → TypeId → Ans) : Ans :=
  Option.rec (motive := fun _ => Ans) none (fun o => AObj.rec (motive := fun _ => Ans) (fun c e => yes c e) (fun _ _ => none) (fun _ _ _ _ => none) (fun _ _ _ _ _ _ _ _ => none) none none o) o
def note (hor : Nat) (n : Nat) (a : Ac) (l : L) : L := Bool.rec (motive := fun _ => L) l (a :: l) (Nat.blt n hor)
/-- One cell of a list. -/
def cellF (c : List Value) (i : Nat) (no : Ans) (yes : Value → Ans) : Ans :=
  List.rec (motive := fun _ => Nat → Ans) (fun _ => no) (fun v _ ih i => Nat.rec (motive := fun _ => Ans) (yes v) (fun j _ => ih j) i) c i
def setF1 (c : List Value) (i : Nat) (v : Value) : List Value :=
  List.rec (motive := fun _ => Nat → List Value) (fun _ => []) (fun x c ih i => Nat.rec (motive := fun _ => List Value) (v :: c) (fun j _ => x :: ih j) i) c i
def readK (hor n lo len : Nat) (h : H) (next : Nat) (l : L) (k : List Value → H → Nat → L → Ans) : Ans :=
  cellsK (getP (path n) h) (fun c _ => Option.rec (motive := fun _ => Ans) none (fun vs => k vs h next (note hor n (.rd n lo len) l)) (slots c lo len))
def read1K (hor n lo : Nat) (h : H) (next : Nat) (l : L) (k : Kv) : Ans :=
  cellsK (getP (path n) h) (fun c _ => cellF c lo none (fun v => k v h next (note hor n (.rd n lo 1) l)))
def writeK (hor n lo : Nat) (vs : List Value) (h : H) (next : Nat) (l : L) (k : H → Nat → L → Ans) : Ans :=
  cellsK (getP (path n) h) (fun c e => Bool.rec (motive := fun _ => Ans) none (k (setP (path n) (.cells (over c lo vs) e) h) next (note hor n (.wr n lo vs) l)) (Nat.ble (Nat.add lo vs.length) c.length))
def forceK (n : Nat) (k : Nat → Ans) : Ans := Nat.rec (motive := fun _ => Ans) (k 0) (fun m _ => k (Nat.succ m)) n
def newK (hor : Nat) (o : AObj) (h : H) (next : Nat) (l : L) (k : Nat → H → Nat → L → Ans) : Ans :=
  Option.rec (motive := fun _ => Ans) (forceK (Nat.succ next) (fun nx => k next (setP (path next) o h) nx (note hor next (.put next .dead) l))) (fun _ => none) (getP (path next) h)

/-! ### Operations -/
abbrev OpK := Program → RunF → Oper → Fs → Tri Value → H → Nat → L → Nat → Kt → Ans

/-- All else: by the evaluator as it was written first. -/
def fallF (P : Program) (o : Oper) (fs : Fs) (T : Tri Value) (h : H) (next : Nat) (l : L) (hor : Nat) (k : Kt) : Ans :=
  match evOp P [] (fun _ _ => .fail) ⟨fs.sz, T, fs.marks, fs.round⟩ o ⟨h, next, []⟩ with
  | none => none
  | some (v, ⟨h', next', l'⟩) => k (putF fs o.dst v T) h' next' ((l'.filter fun x => Nat.blt x.name hor) ++ l)
def opFall : OpK := fun P _ o fs T h n l hor k => fallF P o fs T h n l hor k
def opNone : OpK := fun _ _ _ _ _ _ _ _ _ _ => none
def opMove (x : Operand) : OpK := fun _ _ o fs T h n l _ k => valK x T (fun v => k (putF fs (Oper.dst o) v T) h n l)
def opPick (c a b : Operand) : OpK := fun _ _ o fs T h n l _ k =>
  boolK (rawF c T) none (fun t => Bool.rec (motive := fun _ => Ans) (valK b T (fun v => k (putF fs (Oper.dst o) v T) h n l)) (valK a T (fun v => k (putF fs (Oper.dst o) v T) h n l)) t)
def opAlloc (t : TypeId) : OpK := fun P _ o fs T h n l hor k =>
  Option.rec (motive := fun _ => Ans) none (fun z => newK hor (.cells (cellsF z) t) h n l (fun m h n l => k (putF fs (Oper.dst o) (.pointer (some ⟨m, 0, none⟩)) T) h n l)) (zeroT P t)
def opBox (t : TypeId) (x : Operand) : OpK := fun _ _ o fs T h n l hor k =>
  valK x T (fun v => newK hor (.cells (cellsF v) t) h n l (fun m h n l => k (putF fs (Oper.dst o) (.pointer (some ⟨m, 0, none⟩)) T) h n l))
def opLoad (t : TypeId) (a : Operand) : OpK := fun P _ o fs T h n l hor k =>
  valK a T (fun p => ptrK p none (fun b off => Option.rec (motive := fun _ => Ans) none
    (fun s => Option.rec (motive := fun _ => Ans) (read1K hor b off h n l (fun v h n l => k (putF fs (Oper.dst o) v T) h n l))
      (fun sz => readK hor b off sz h n l (fun vs h n l => k (putF fs (Oper.dst o) (.agg ⟨vs⟩) T) h n l)) s) (shapeT P t)))
def opStore (t : TypeId) (a x : Operand) : OpK := fun P _ o fs T h n l hor k =>
  valK a T (fun p => ptrK p none (fun b off => valK x T (fun v => Option.rec (motive := fun _ => Ans) none
    (fun sz => (fun cs : List Value => Bool.rec (motive := fun _ => Ans) none
      (Bool.rec (motive := fun _ => Ans) none (writeK hor b off cs h n l (fun h n l => k (putF fs (Oper.dst o) undef T) h n l)) (okCells cs)) (Nat.beq cs.length sz)) (cellsF v)) (sizeT P t))))
def opField (s : TypeId) (x : Operand) (f : Nat) : OpK := fun P _ o fs T h n l _ k =>
  valK x T (fun p => ptrK p none (fun b off => Option.rec (motive := fun _ => Ans) none
    (fun d => k (putF fs (Oper.dst o) (.pointer (some ⟨b, Nat.add off d, none⟩)) T) h n l) (fieldT P s f)))
def opIndexAddr (t : TypeId) (x ix : Operand) : OpK := fun P _ o fs T h n l _ k =>
  valK x T (fun p => valK ix T (fun iv => intK iv none (fun _ i => Option.rec (motive := fun _ => Ans) none
    (fun e => Prod.rec (motive := fun _ => Ans) (fun alen sz => placeK p none
        (fun b off => Option.rec (motive := fun _ => Ans) none (fun len => Bool.rec (motive := fun _ => Ans) none (k (putF fs (Oper.dst o) (.pointer (some ⟨b, Nat.add off (Nat.mul i sz), none⟩)) T) h n l) (Nat.blt i len)) alen)
        (fun b off len => Option.rec (motive := fun _ => Ans) (Bool.rec (motive := fun _ => Ans) none (k (putF fs (Oper.dst o) (.pointer (some ⟨b, Nat.add off (Nat.mul i sz), none⟩)) T) h n l) (Nat.blt i len)) (fun _ => none) alen)) e) (elemT P t))))
def opExtract (x : Operand) (i : Nat) : OpK := fun _ _ o fs T h n l _ k =>
  valK x T (fun v => tupK v none (fun vs => cellF vs i none (fun v => k (putF fs (Oper.dst o) v T) h n l)))

def limF (k : IntKind) : Nat := IntKind.rec (motive := fun _ => Nat) 128 32768 2147483648 9223372036854775808 256 65536 4294967296 18446744073709551616 k
def kidF (k : IntKind) : Nat := IntKind.rec (motive := fun _ => Nat) 0 1 2 3 4 5 6 7 k
abbrev BinK := Option TypeDesc → IntKind → IntKind → Nat → Nat → (Value → Ans) → Ans → Ans
def sameK (a b : IntKind) (no yes : Ans) : Ans := Bool.rec (motive := fun _ => Ans) no yes (Nat.beq (kidF a) (kidF b))
def intD (d : Option TypeDesc) : Bool := Option.rec (motive := fun _ => Bool) false isIntT d
def biNo : BinK := fun _ _ _ _ _ _ fb => fb
def biAdd : BinK := fun _ k j x y yes fb => sameK k j fb (forceK (Nat.add x y) (fun r => Bool.rec (motive := fun _ => Ans) fb (yes (.int k (.ofNat r))) (Nat.blt r (limF k))))
def biSub : BinK := fun _ k j x y yes fb => sameK k j fb (Bool.rec (motive := fun _ => Ans) fb (forceK (Nat.sub x y) (fun r => yes (.int k (.ofNat r)))) (Nat.ble y x && Nat.blt x (limF k)))
def biCmp (f : Nat → Nat → Bool) : BinK := fun _ k j x y yes fb => sameK k j fb (yes (.bool (f x y)))
def biEq (f : Nat → Nat → Bool) : BinK := fun d k j x y yes fb => Bool.rec (motive := fun _ => Ans) fb (biCmp f d k j x y yes fb) (intD d)
def neF (x y : Nat) : Bool := !(Nat.beq x y)
def gtF (x y : Nat) : Bool := Nat.blt y x
def geF (x y : Nat) : Bool := Nat.ble y x
def binTab (op : BinOp) : BinK :=
  BinOp.rec (motive := fun _ => BinK) biAdd biSub biNo biNo biNo biNo biNo biNo biNo biNo biNo (biEq Nat.beq) (biEq neF) (biCmp Nat.blt) (biCmp Nat.ble) (biCmp gtF) (biCmp geF) op
def opBin (op : BinOp) (t : TypeId) (x y : Operand) (_ : TypeId) : OpK := fun P _ o fs T h n l hor k =>
  intK (rawF x T) (fallF P o fs T h n l hor k) (fun ka a => intK (rawF y T) (fallF P o fs T h n l hor k) (fun kb b =>
    binTab op (descT P t) ka kb a b (fun v => k (putF fs (Oper.dst o) v T) h n l) (fallF P o fs T h n l hor k)))

def valsK (xs : List Operand) (T : Tri Value) (k : List Value → Ans) : Ans :=
  List.rec (motive := fun _ => (List Value → Ans) → Ans) (fun k => k []) (fun x _ ih k => valK x T (fun v => ih (fun vs => k (v :: vs)))) xs k
def layF (vs : List Value) : Nat → Tri Value → Tri Value :=
  List.rec (motive := fun _ => Nat → Tri Value → Tri Value) (fun _ T => T) (fun v _ ih i T => ih (Nat.succ i) (setP (path i) v T)) vs

def leaveF (hor : Nat) (ms : List Nat) (h : H) (l : L) (k : H → L → Ans) : Ans :=
  List.rec (motive := fun _ => H → L → Ans) (fun h l => k h l) (fun m _ ih h l => Option.rec (motive := fun _ => Ans) none
    (fun o => AObj.rec (motive := fun _ => Ans) (fun _ _ => none) (fun _ _ => none) (fun _ _ _ _ => none) (fun _ _ _ _ _ _ _ _ => none) (ih (setP (path m) .dead h) (note hor m (.put m .dead) l)) none o) (getP (path m) h)) ms h l
def resK (P : Program) (T : Tri Value) (hor : Nat) (rs : List ResultVar) (h : H) (n : Nat) (l : L) (k : List Value → L → Ans) : Ans :=
  List.rec (motive := fun _ => L → (List Value → L → Ans) → Ans) (fun l k => k [] l)
    (fun r _ ih l k => ResultVar.rec (motive := fun _ => Ans) (fun t => ih l (fun vs l => k (tmpF t T :: vs) l))
      (fun a t => ptrK (tmpF a T) none (fun b off => Option.rec (motive := fun _ => Ans) none
        (fun s => Option.rec (motive := fun _ => Ans) (read1K hor b off h n l (fun v _ _ l => ih l (fun vs l => k (v :: vs) l)))
          (fun sz => readK hor b off sz h n l (fun cs _ _ l => ih l (fun vs l => k (.agg ⟨cs⟩ :: vs) l))) s) (shapeT P t))) r) rs l k
def oneF (vs : List Value) : Value :=
  List.rec (motive := fun _ => List Value → Value) (fun vs => .tuple ⟨vs⟩) (fun v t _ vs => List.rec (motive := fun _ => Value) v (fun _ _ _ => .tuple ⟨vs⟩) t) vs vs
def exitNo (e : Ex) (no yes : Ans) : Ans := Ex.rec (motive := fun _ => Ans) yes (fun _ => no) yes e

def callF (P : Program) (pf : List (FuncId × Value)) (R : RunF) (f : FuncId) (args : List Value) (h : H) (n : Nat) (l : L) (hor : Nat) (k : Kv) : Ans :=
  Option.rec (motive := fun _ => Ans)
    (Option.rec (motive := fun _ => Ans) none
      (fun fn => Option.rec (motive := fun _ => Ans) none
        (fun c => forceK (Nat.add args.length (Nat.sub (Func.ntmps fn) args.length)) (fun sz => R c ⟨sz, [], none⟩ (layF args 0 .nil) h n l hor
          (fun e fs T h n l => exitNo e none (leaveF hor (Fs.marks fs) h l (fun h l => resK P T hor (Array.toList (Func.results fn)) h n l (fun vs l => k (oneF vs) h n l)))))) (Func.body fn)) (getP (path f) (fnT P)))
    (fun v => List.rec (motive := fun _ => Ans) (k v h n l) (fun _ _ _ => none) args) (pinned pf f)

def exJump (e : Ex) : Option Code := Ex.rec (motive := fun _ => Option Code) none (fun id => some (.exit id)) (some .ret) e
def loopK (o : Option AObj) (yes : LoopState → Option Code → Nat → Tri Value → List Tmp → Code → Code → Nat → Ans) : Ans :=
  Option.rec (motive := fun _ => Ans) none (fun o => AObj.rec (motive := fun _ => Ans) (fun _ _ => none) (fun _ _ => none) (fun _ _ _ _ => none) yes none none o) o
def yieldF (R : RunF) (b : Nat) (args : List Value) (h : H) (n : Nat) (l : L) (hor : Nat) (k : Kv) : Ans :=
  loopK (getP (path b) h) (fun _ _ sz T ps assign body _ => Bool.rec (motive := fun _ => Ans) none
    (R assign ⟨sz, [], some b⟩ (putParams ps args sz T) h n (note hor b (.put b .dead) l) hor (fun e fs T1 h n l => Ex.rec (motive := fun _ => Ans)
      (loopK (getP (path b) h) (fun st pend sz' T' ps' assign' body' d' => LoopState.rec (motive := fun _ => Ans)
        (R body fs T1 (setP (path b) (.loop .busy pend sz' T' ps' assign' body' d') h) n l hor (fun e _ _ h n l =>
          loopK (getP (path b) h) (fun _ _ sz'' T'' ps'' assign'' body'' d'' =>
            Option.rec (motive := fun _ => Ans) (k (.bool true) (setP (path b) (.loop .ready none sz'' T'' ps'' assign'' body'' d'') h) n l)
              (fun j => k (.bool false) (setP (path b) (.loop .done (some j) sz'' T'' ps'' assign'' body'' d'') h) n l) (exJump e)))) none none none st))
      (fun _ => none) none e)) (Nat.beq args.length ps.length))

def noneK (l : List Value) (x : Ans) : Ans := List.rec (motive := fun _ => Ans) x (fun _ _ _ => none) l
def opCall (pf : List (FuncId × Value)) (c : Call) : OpK := fun P R o fs T h n l hor k =>
  Callee.rec (motive := fun _ => Ans)
    (fun f => valK f T (fun fv => valsK (Array.toList (Call.args c)) T (fun args => funcK fv none (fun fn first cap =>
      Fn.rec (motive := fun _ => Ans) (fun g => callF P pf R g (first ++ args ++ cap) h n l hor (fun v h n l => k (putF fs (Oper.dst o) v T) h n l))
        (fun _ => none) (fun _ _ => none) (fun _ _ _ _ => none) (fun b => noneK first (noneK cap (yieldF R b args h n l hor (fun v h n l => k (putF fs (Oper.dst o) v T) h n l)))) fn))))
    (fun _ _ => none) (fun _ => fallF P o fs T h n l hor k) (Call.callee c)

def opTab (pf : List (FuncId × Value)) (op : Op) : OpK :=
  Op.rec (motive := fun _ => OpK) opMove opMove opPick opAlloc opBox (fun _ _ => opFall) (fun _ _ _ => opFall) (fun _ _ _ _ => opFall) opLoad opStore (fun _ => opNone) (fun _ => opNone) (fun _ => opFall)
    opBin (fun _ _ _ => opFall) (fun _ _ _ => opFall) (fun _ _ => opNone) (fun _ _ => opNone) (fun _ _ _ => opFall) (fun _ _ => opFall) (fun _ _ => opNone) (fun _ _ _ => opNone) (fun _ _ _ _ _ => opFall)
    opField (fun _ _ _ => opFall) opIndexAddr (fun _ _ _ => opFall) (fun _ _ _ _ => opFall) (fun _ _ _ _ => opFall) (fun _ _ _ => opNone) (fun _ _ _ _ => opNone) (fun _ _ => opFall) (fun _ _ => opFall) (fun _ => opNone)
    (fun _ _ _ _ => opNone) opExtract (opCall pf) (fun _ => opNone) (fun _ => opNone) (fun _ => opNone) (fun _ _ => opNone) (fun _ _ _ => opNone) (fun _ _ => opNone) op

def opAtF (P : Program) (pf : List (FuncId × Value)) (R : RunF) (ops : Array Oper) (o : Oper) : Fs → Tri Value → H → Nat → L → Nat → Kt → Ans :=
  Option.rec (motive := fun _ => Fs → Tri Value → H → Nat → L → Nat → Kt → Ans) (fun fs T h n l hor k => opTab pf (Oper.op o) P R o fs T h n l hor k)
    (fun _ fs T h n l hor k => Bool.rec (motive := fun _ => Ans) (k (putF fs (Oper.dst o) undef T) h n l) (opTab pf (Oper.op o) P R o fs T h n l hor k) (wantedF ops ⟨Fs.sz fs, T, [], none⟩ o)) (Oper.guard o)

def opsF (P : Program) (pf : List (FuncId × Value)) (R : RunF) (ops : Array Oper) (fs : Fs) (hor : Nat) (k : Kt) (l0 : List Oper) : Tri Value → H → Nat → L → Ans :=
  List.rec (motive := fun _ => Tri Value → H → Nat → L → Ans) k (fun o _ ih T h n l => opAtF P pf R ops o fs T h n l hor ih) l0

/-! ### A region that draws its order -/
structure RecF where
  i : Nat
  lo : Nat
  hi : Nat
  l : L
def apartF (c0 : Nat) (x y : RecF) : Bool :=
  match Nat.ble x.hi y.lo with
  | true => match writesAny x.l || writesAny y.l with
    | true => !clashes x.l y.l && y.l.all (fun a => Nat.blt a.name x.lo || Nat.ble x.hi a.name)
    | false => y.l.all (fun a => Nat.blt a.name c0 || Nat.blt a.name x.lo || Nat.ble x.hi a.name)
  | false => false
def againstF (ops : Array Oper) (c0 : Nat) (x : RecF) : List RecF → Bool
  | [] => true
  | y :: l => match apartF c0 x y || orderedIn (masks ops) x.i y.i with
    | true => againstF ops c0 x l
    | false => false
def allApartF (ops : Array Oper) (c0 : Nat) : List RecF → Bool
  | [] => true
  | x :: l => match againstF ops c0 x l with
    | true => allApartF ops c0 l
    | false => false
def addRec (i lo hi : Nat) (l : L) (recs : List RecF) : List RecF :=
  List.rec (motive := fun _ => List RecF) (Bool.rec (motive := fun _ => List RecF) ({ i, lo, hi, l } :: recs) recs (Nat.beq lo hi)) (fun _ _ _ => { i, lo, hi, l } :: recs) l
def drawOpsF (P : Program) (pf : List (FuncId × Value)) (R : RunF) (ops : Array Oper) (fs : Fs) (k : List RecF → Kt) (l0 : List Oper) : Nat → List RecF → Tri Value → H → Nat → Ans :=
  List.rec (motive := fun _ => Nat → List RecF → Tri Value → H → Nat → Ans) (fun _ recs T h n => k recs T h n [])
    (fun o _ ih i recs T h n => opAtF P pf R ops o fs T h n [] n (fun T h n1 l1 => ih (Nat.succ i) (addRec i n n1 l1 recs) T h n1)) l0

def logsOf (hor : Nat) (recs : List RecF) (l : L) : L := recs.foldr (fun x acc => (x.l.filter fun a => Nat.blt a.name hor) ++ acc) l

def drawF (P : Program) (pf : List (FuncId × Value)) (R : RunF) (ops : Array Oper) (fs : Fs) (T : Tri Value) (h : H) (n : Nat) (l : L) (hor : Nat) (k : Kt) : Ans :=
  Bool.rec (motive := fun _ => Ans) none (drawOpsF P pf R ops fs (fun recs T h n1 _ => Bool.rec (motive := fun _ => Ans) none (k T h n1 (logsOf hor recs l)) (allApartF ops n recs.reverse)) ops.toList 0 [] T h n) (textOk ops)

def rangeEndF (pend : Option Code) (k : Ex → Ans) : Ans :=
  Option.rec (motive := fun _ => Ans) (k .normal) (fun c => match c with
    | .exit id => k (.exit id)
    | .ret => k .ret
    | _ => none) pend
def rangeFF (P : Program) (pf : List (FuncId × Value)) (R : RunF) (g : Operand) (ps : Array Tmp) (assign body : Code) (fs : Fs) (T : Tri Value) (h : H) (n : Nat) (l : L) (hor : Nat) (k : Kc) : Ans :=
  Option.rec (motive := fun _ => Ans)
    (valK g T (fun fv => funcK fv none (fun fn first cap => Fn.rec (motive := fun _ => Ans)
      (fun f => newK hor .marks h n l (fun d h n l => newK hor (.loop .ready none (Fs.sz fs) T (Array.toList ps) assign body d) h n l (fun b h n l =>
        callF P pf R f (first ++ [.func (.yield b) #[] #[]] ++ cap) h n l hor (fun _ h n l =>
          loopK (getP (path b) h) (fun st pend sz T' ps' as' bo' d' => LoopState.rec (motive := fun _ => Ans)
            (rangeEndF pend (fun e => k e ⟨Fs.sz fs, d :: Fs.marks fs, none⟩ T (setP (path b) (.loop .exhausted pend sz T' ps' as' bo' d') h) n l)) none
            (rangeEndF pend (fun e => k e ⟨Fs.sz fs, d :: Fs.marks fs, none⟩ T (setP (path b) (.loop .exhausted pend sz T' ps' as' bo' d') h) n l)) none st)))))
      (fun _ => none) (fun _ _ => none) (fun _ _ _ _ => none) (fun _ => none) fn)))
    (fun _ => none) (Fs.round fs)

/-! ### Code -/
abbrev StepF := Program → List (FuncId × Value) → RunF → Fs → Tri Value → H → Nat → L → Nat → Kc → Ans
def cSkip : StepF := fun _ _ _ fs T h n l _ k => k .normal fs T h n l
def cNone : StepF := fun _ _ _ _ _ _ _ _ _ _ => none
def cRegion (_ : Nat) (ops : Array Oper) (draw : Bool) : StepF := fun P pf R fs T h n l hor k =>
  Bool.rec (motive := fun _ => Ans) (opsF P pf R ops fs hor (fun T h n l => k .normal fs T h n l) (Array.toList ops) T h n l) (drawF P pf R ops fs T h n l hor (fun T h n l => k .normal fs T h n l)) draw
def cSeq (a b : Code) : StepF := fun _ _ R fs T h n l hor k =>
  R a fs T h n l hor (fun e fs T h n l => Ex.rec (motive := fun _ => Ans) (R b fs T h n l hor k) (fun id => k (.exit id) fs T h n l) (k .ret fs T h n l) e)
def cCond (x : Operand) (a b : Code) : StepF := fun _ _ R fs T h n l hor k =>
  boolK (rawF x T) none (fun t => Bool.rec (motive := fun _ => Ans) (R b fs T h n l hor k) (R a fs T h n l hor k) t)
def cBlock (id : Nat) (b : Code) : StepF := fun _ _ R fs T h n l hor k =>
  R b fs T h n l hor (fun e fs T h n l => Ex.rec (motive := fun _ => Ans) (k .normal fs T h n l) (fun j => Bool.rec (motive := fun _ => Ans) (k (.exit j) fs T h n l) (k .normal fs T h n l) (Nat.beq j id)) (k .ret fs T h n l) e)
def cLoop (b : Code) : StepF := fun _ _ R fs T h n l hor k =>
  R b fs T h n l hor (fun e fs T h n l => Ex.rec (motive := fun _ => Ans) (R (.loop b) fs T h n l hor k) (fun id => k (.exit id) fs T h n l) (k .ret fs T h n l) e)
def cRange (g : Operand) (ps : Array Tmp) (assign body : Code) : StepF := fun P pf R fs T h n l hor k => rangeFF P pf R g ps assign body fs T h n l hor k
def cExit (id : Nat) : StepF := fun _ _ _ fs T h n l _ k => k (.exit id) fs T h n l
def cRet : StepF := fun _ _ _ fs T h n l _ k => k .ret fs T h n l
def codeTab (c : Code) : StepF :=
  Code.rec (motive := fun _ => StepF) cSkip cRegion (fun a b _ _ => cSeq a b) (fun x a b _ _ => cCond x a b) (fun id b _ => cBlock id b) (fun b _ => cLoop b) (fun g ps a b _ _ => cRange g ps a b) cExit
    (fun _ _ => cNone) (fun _ => cNone) (fun _ => cNone) cRet (fun _ => cNone) c
def evF (P : Program) (pf : List (FuncId × Value)) (n : Nat) : RunF :=
  Nat.rec (motive := fun _ => RunF) (fun _ _ _ _ _ _ _ _ => none) (fun _ R c fs T h n l hor k => codeTab c P pf R fs T h n l hor k) n

def evCallF (P : Program) (pf : List (FuncId × Value)) (fuel : Nat) (f : FuncId) (args : List Value) : Ans :=
  callF P pf (evF P pf fuel) f args .nil 0 [] 0 (fun v h n l => some (v, ⟨h, n, l⟩))
end
end Go.Proofs.YtkiakphfgdkdiaaGreat
