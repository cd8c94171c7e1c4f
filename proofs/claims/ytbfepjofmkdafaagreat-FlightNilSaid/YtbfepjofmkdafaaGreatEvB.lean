/- The abstract evaluator (own work): operations, code, calls. -/
import Derived.Test.YtbfepjofmkdafaaGreatEvA
import GoSem.Machine.Frame
namespace Go.Ev
noncomputable section
variable (P : Cx)

/-- the variables of a frame: those of the region that runs, the newest first; all others -/
structure Env where
  loc : List (Nat × Value)
  all : Tr Value
def getLoc (k : Nat) (T : Tr Value) (l : List (Nat × Value)) : Option Value :=
  List.rec (motive := fun _ => Option Value) (T.get k) (fun x _ ih => Bool.rec ih (some x.2) (Nat.beq x.1 k)) l
def Env.get (E : Env) (k : Nat) : Option Value := getLoc k E.all E.loc

inductive R1 where
  | val (v : Value) (h : AH)
  | skip (h : AH)
  | enter (f : FuncId) (args : List Value) (h : AH)
  | yield (l : Nat) (args : List Value) (h : AH)
  | many (l : List (Value × AH))
 deriving Inhabited
 abbrev Res := Option R1
def one (v : Value) (h : AH) : Res := some (.val v h)

def evalO (T : Env) : Operand → Option Value
  | .tmp t => T.get t
  | .const v => bc (closedV 4 v) (some v) none
  | .func f => some (.func (.func f) #[] #[])
  | .global _ => none
/-- a run that looks at no memory and gives a value without addresses -/
def prunV (n : Nat) (s : Sem Value) : Option Value := match prun P n s with
  | some v => bc (closedV 3 v) (some v) none
  | none => none
def evalL (T : Env) : List Operand → Option (List Value)
  | [] => some []
  | x :: r => match evalO T x with
    | some v => match evalL T r with
      | some vs => some (v :: vs)
      | none => none
    | none => none

def loadN (h : AH) (b off n : Nat) : Option (List Value) :=
  match h.get b with
  | some (.cells cs _ _) => takeL n (dropL off cs)
  | _ => none
def loadV (h : AH) (t : TypeId) (b off : Nat) : Option Value :=
  match aggT P t with
  | some true => match tsize P t with
    | some n => match loadN h b off n with
      | some l => some (.agg ⟨l⟩)
      | none => none
    | none => none
  | some false => match h.get b with
    | some (.cells cs _ _) => getL off cs
    | _ => none
  | none => none
def cellsV : Value → List Value
  | .agg cs => cs.toList
  | v => [v]
/-- may it stand in a cell? -/
def scal : Value → Bool
  | .agg _ => false
  | .tuple _ => false
  | _ => true
def scals : List Value → Bool
  | [] => true
  | v :: r => bc (scal v) (scals r) false
def storeL (h : AH) (b off : Nat) (new : List Value) : Option AH :=
  match new with
  | [] => some h
  | new => match h.get b with
    | some (.cells cs e g) => match spliceL off new cs with
      | some cs' => bc (scals new) (some (h.putCells b cs' e g)) none
      | none => none
    | _ => none
def storeV (h : AH) (t : TypeId) (b off : Nat) (v : Value) : Option AH :=
  match tsize P t with
  | some n => bc (Nat.beq (lenL (cellsV v)) n) (storeL h b off (cellsV v)) none
  | none => none

def toNatI : Int → Option Nat
  | .ofNat n => some n
  | .negSucc _ => none
def intOf : Value → Option Int
  | .int _ n => some n
  | _ => none
def natOf (v : Value) : Option Nat := match v with
  | .int _ (.ofNat n) => some n
  | _ => none

/-- a slice's room: at least this much; is it just this? -/
def capOf (code : Nat) : Nat := Nat.div code 2
def exactC (base : Option Addr) (code : Nat) : Bool := match base with | none => true | some _ => Nat.beq (Nat.mod code 2) 1
def mkCap (n : Nat) (ex : Bool) : Nat := Nat.add (Nat.mul 2 n) (bc ex 1 0)

/-- a new row, in a slice of unknown room -/
def newA (h : AH) (cells : List Value) (e : TypeId) (len : Nat) : Res := one (.slice (some ⟨h.next, 0, none⟩) len (mkCap len false)) (h.newCells cells e)
def bytesCells (s : ByteArray) : List Value := s.data.toList.map fun b => .int .u8 b.toNat
def cellsBytes : List Value → Option (List UInt8)
  | [] => some []
  | .int .u8 n :: r => match cellsBytes r with
    | some l => some (UInt8.ofNat n.toNat :: l)
    | none => none
  | _ :: _ => none

/-- what is appended -/
def appZeros (e : TypeId) (sz : Nat) (x : Value) : Option (Nat × List Value) := match natOf x with
  | some n => match tzero P e with
    | some z => match tbytes P e with
      | some by_ => bc (bc (Nat.ble (Nat.mul n (Nat.succ by_)) 281474976710656) (Nat.beq (lenL z) sz) false) (some (n, repL n z)) none
      | none => none
    | none => none
  | none => none
def appCells (h : AH) (sz : Nat) (x : Value) : Option (Nat × List Value) := match x with
  | .slice none _ _ => some (0, [])
  | .slice (some a) n _ => bc (Nat.beq n 0) (some (0, [])) (match loadN h a.block a.off (Nat.mul n sz) with | some l => some (n, l) | none => none)
  | .string y => bc (Nat.beq sz 1) (some (y.size, bytesCells y)) none
  | _ => none
def appNew (h : AH) (e : TypeId) (sz : Nat) (xT : TypeId) (x : Value) : Option (Nat × List Value) := match desc P xT with
  | some (.int _) => appZeros P e sz x
  | some _ => appCells h sz x
  | none => none
/-- a row of zeros of this type lies to hand, and there is memory for so many -/
def roomOK (e : TypeId) (sz need : Nat) : Bool := match tzero P e, tbytes P e with
  | some z, some by_ => bc (Nat.beq (lenL z) sz) (bc (Nat.ble 1 by_) (Nat.ble (Nat.mul by_ (Nat.add (Nat.mul 2 need) 1000)) 281474976710656) false) false
  | _, _ => false
def oldCells (h : AH) (a : Addr) (len sz : Nat) : Option (List Value) := bc (Nat.beq len 0) (some []) (loadN h a.block a.off (Nat.mul len sz))
def appGrow (h : AH) (e sz : Nat) (base : Option Addr) (len code n : Nat) (cells : List Value) : Res := match base with
  | none => newA h cells e (Nat.add len n)
  | some a => match oldCells h a len sz with
    | none => none
    | some oldc => bc (exactC base code) (newA h (appL oldc cells) e (Nat.add len n))
      (match h.get a.block with
       | some (.cells cs e' g) =>
         -- the old block may lend its room: it stays if nothing of it lies behind the slice's end
         bc (bc (Nat.beq e e') (bc (Nat.beq (lenL cs) (Nat.add a.off (Nat.mul len sz))) (scals cells) false) false)
           (one (.slice (some ⟨h.next, 0, none⟩) (Nat.add len n) (mkCap (Nat.add len n) false)) (h.newBeside g a.block (appL oldc cells) e))
           none
       | _ => none)
def appStay (h : AH) (sz : Nat) (s : Value) (base : Option Addr) (len code n : Nat) (cells : List Value) : Res := match base with
  | none => one s h
  | some a => match storeL h a.block (Nat.add a.off (Nat.mul len sz)) cells with
    | some h' => one (.slice base (Nat.add len n) code) h'
    | none => none
def appendA (h : AH) (sT xT : TypeId) (s x : Value) : Res :=
  match desc P sT with
  | some (.slice e) => match tsize P e with
    | some 0 => none
    | some sz => match s with
      | .slice base len code =>
        match appNew P h e sz xT x with
        | none => none
        | some (n, cells) => bc (Nat.ble (Nat.add len n) (capOf code)) (appStay h sz s base len code n cells)
            (bc (roomOK P e sz (Nat.add len n)) (appGrow h e sz base len code n cells) none)
      | _ => none
    | none => none
  | _ => none

def fillA (place : Nat → Option (Nat × Nat)) (cells : List Value) : List (Nat × Value) → Option (List Value)
  | [] => some cells
  | (i, v) :: r => match place i with
    | none => none
    | some (off, sz) => bc (Nat.beq (lenL (cellsV v)) sz)
      (match spliceL off (cellsV v) cells with
       | some cs => fillA place cs r
       | none => none) none
def structPlace (fs : List Field) (i : Nat) : Option (Nat × Nat) :=
  match getL i fs with
  | some f => match tsize P f.type with
    | some n => some (f.offset, n)
    | none => none
  | none => none
def fieldsOK : List Field → Bool
  | [] => true
  | f :: r => match tsize P f.type with
    | some _ => fieldsOK r
    | none => false
def buildA (t : TypeId) (parts : List (Nat × Value)) : Option Value :=
  match tzero P t with
  | none => none
  | some z => match desc P t with
    | some (.struct fs) => bc (fieldsOK P fs.toList) (match fillA (structPlace P fs.toList) z parts with
      | some l => some (.agg ⟨l⟩)
      | none => none) none
    | some (.array _ e) => match tsize P e with
      | some n => match fillA (fun i => some (Nat.mul i n, n)) z parts with
        | some l => some (.agg ⟨l⟩)
        | none => none
      | none => none
    | _ => none
def evalParts (T : Env) : List (Nat × Operand) → Option (List (Nat × Value))
  | [] => some []
  | (i, x) :: r => match evalO T x with
    | some v => match evalParts T r with
      | some vs => some ((i, v) :: vs)
      | none => none
    | none => none

def noEntry : List MapEntry → Bool
  | [] => true
  | _ => false
def findK (empty : Bool) (kt : TypeId) (k : Value) (es : List MapEntry) : Option (Option (Nat × Value)) :=
  bc (closedV 10 k) (match prun P 100000 (Instr.checkKey empty 10000 kt k) with
    | some _ => prun P 100000 (Instr.findKey kt k es)
    | none => none) none

def modL {α : Type} (f : α → α) : Nat → List α → List α
  | _, [] => []
  | 0, x :: l => f x :: l
  | n+1, x :: l => x :: modL f n l
def delL {α : Type} : Nat → List α → List α
  | _, [] => []
  | 0, _ :: l => l
  | n+1, x :: l => x :: delL n l
def findBorn (b : Nat) : List MapEntry → Nat → Option (Nat × MapEntry)
  | [], _ => none
  | e :: r, i => bc (Nat.beq e.born b) (some (i, e)) (findBorn b r (Nat.succ i))
def leftOf (seen : List Nat) : List MapEntry → List MapEntry
  | [] => []
  | e :: r => bc (memN e.born seen) (leftOf seen r) (e :: leftOf seen r)
def allOld (since : Nat) : List MapEntry → Bool
  | [] => true
  | e :: r => bc (Nat.blt e.born since) (allOld since r) false
def lookupA (h : AH) (mt : TypeId) (m k : Value) (ok : Bool) : Option Value :=
  match desc P mt with
  | some (.map kt et) =>
    let es : Option (List MapEntry) := match m with
      | .map none => some []
      | .map (some r) => match h.get r with | some (.map es _) => some es | _ => none
      | _ => none
    match es with
    | none => none
    | some es => match findK P (noEntry es) kt k es with
      | none => none
      | some (some (_, v)) => some (bc ok (.tuple #[v, .bool true]) v)
      | some none => match tzeroV P et with
        | some z => some (bc ok (.tuple #[z, .bool false]) z)
        | none => none
  | _ => none
def mapSet (h : AH) (mt : TypeId) (m k v : Value) : Option AH :=
  match desc P mt with
  | some (.map kt _) => match m with
    | .map (some r) => match h.get r with
      | some (.map es clock) => match findK P false kt k es with
        | none => none
        | some (some (i, _)) => match getL i es with
          | some e => bc (Instr.sameBits 10000 e.key k) (some (h.put r (.map (modL (fun e => { e with key := k, val := v }) i es) clock))) none
          | none => none
        | some none => some (h.put r (.map (appL es [{ key := k, val := v, born := clock }]) (Nat.succ clock)))
      | _ => none
    | _ => none
  | _ => none

/-- a row of this type -/
def rowOf (h : AH) (b : Nat) (e : TypeId) : Bool := match h.get b with
  | some (.cells _ e' _) => Nat.beq e e'
  | _ => false
def natD (o : Option Value) (d : Nat) : Option Nat := match o with | none => some d | some v => natOf v
def sliceNil (l hh m : Nat) : Option Value := some (.slice none (Nat.sub hh l) (Nat.sub m l))
def sliceAt (b off l hh m sz : Nat) (ex : Bool) : Option Value := some (.slice (some ⟨b, Nat.add off (Nat.mul l sz), none⟩) (Nat.sub hh l) (mkCap (Nat.sub m l) ex))
def sliceB (h : AH) (a : Option Addr) (e sz l hh m : Nat) (ex : Bool) : Option Value := match a with
  | none => sliceNil l hh m
  | some a => bc ex
    (bc (Nat.beq m l) (some (.slice (some a) (Nat.sub hh l) (mkCap 0 true))) (sliceAt a.block a.off l hh m sz true))
    (bc (rowOf h a.block e) (sliceAt a.block a.off l hh m sz false) none)
def sliceA (h : AH) (t : TypeId) (x : Value) (lo hi mx : Option Value) : Option Value :=
  match desc P t, x with
  | some .string, .string s => match mx, natD hi s.size, natD lo 0 with
    | none, some hh, some l => bc (Nat.ble hh s.size) (bc (Nat.ble l hh) (some (.string (s.extract l hh))) none) none
    | _, _, _ => none
  | some (.slice e), .slice a len code => match tsize P e, natD hi len, natD lo 0 with
    | some sz, some hh, some l => match mx with
      | none => bc (Nat.ble hh (capOf code)) (bc (Nat.ble l hh) (sliceB h a e sz l hh (capOf code) (exactC a code)) none) none
      | some mv => match natOf mv, hi with
        | some m, some _ => bc (Nat.ble m (capOf code)) (bc (Nat.ble hh m) (bc (Nat.ble l hh) (sliceB h a e sz l hh m true) none) none) none
        | _, _ => none
    | _, _, _ => none
  | _, _ => none

/-- a pointer's place -/
def placeOf : Value → Option (Nat × Nat)
  | .pointer (some a) => match a.spot with | none => some (a.block, a.off) | some _ => none
  | _ => none

/-- are two values, one of them with an address, the same? -/
def eqP (t : TypeId) (a b : Value) : Option Bool := match desc P t, a, b with
  | some (.pointer _), .pointer (some _), .pointer none => some false
  | some (.pointer _), .pointer none, .pointer (some _) => some false
  | some (.pointer e), .pointer (some p), .pointer (some q) => match tsize P e with
    | some (_ + 1) => bc (bc (Nat.beq p.block q.block) (Nat.beq p.off q.off) false) (some true) none
    | _ => none
  | some (.slice _), .slice (some _) _ _, .slice none _ _ => some false
  | some (.slice _), .slice none _ _, .slice (some _) _ _ => some false
  | some (.map _ _), .map (some _), .map none => some false
  | some (.map _ _), .map none, .map (some _) => some false
  | some (.func _ _ _), .func .., .nilFunc => some false
  | some (.func _ _ _), .nilFunc, .func .. => some false
  | _, _, _ => none
def eqA (op : BinOp) (t : TypeId) (x y : Operand) (a b : Value) : Option Value :=
  bc (bc (closedV 10 a) (closedV 10 b) false)
    (prunV P 1000000 (do eqGuard op t x y a b; binOp op t a b))
    (match eqP P t a b, op with
     | some r, .eql => some (.bool r)
     | some r, .neq => some (.bool (bc r false true))
     | _, _ => none)

def minmax (f : Value → Value → Sem Value) : List Value → Option Value
  | [] => none
  | x :: r => bc (closedV.allL 3 (x :: r)) (prunV P 1000 (r.foldlM f x)) none

def clearA (h : AH) (t : TypeId) (x : Value) : Option AH :=
  match desc P t with
  | none => none
  | some d => match x with
    | .map none => some h
    | .slice none _ _ => some h
    | .map (some r) => match h.get r with | some (.map _ clock) => some (h.put r (.map [] clock)) | _ => none
    | .slice (some a) n _ => bc (Nat.beq n 0) (some h) (match d with
      | .slice e => match tzero P e with
        | some z => storeL h a.block a.off (repL n z)
        | none => none
      | _ => none)
    | _ => none

def lenA (h : AH) (t : TypeId) (x : Value) : Option Value :=
  match x with
  | .slice _ n _ => match desc P t with
    | some (.slice _) => some (goInt n)
    | _ => none
  | .map (some r) => match desc P t with
    | some (.map _ _) => match h.get r with | some (.map es _) => some (goInt (lenL es)) | _ => none
    | _ => none
  | x => bc (closedV 3 x) (prunV P 100 (Builtin.len_ #[t] 0 #[x])) none

def deleteA (h : AH) (kt : TypeId) (m k : Value) : Res := match m with
  | .map none => bc (closedV 10 k) (match prun P 100000 (Instr.checkKey true 10000 kt k) with | some _ => one (.tuple #[]) h | none => none) none
  | .map (some r) => match h.get r with
    | some (.map es clock) => match findK P (noEntry es) kt k es with
      | none => none
      | some (some (i, _)) => one (.tuple #[]) (h.put r (.map (delL i es) clock))
      | some none => one (.tuple #[]) (h.put r (.map es clock))
    | _ => none
  | _ => none
def srcLen : Value → Option Nat
  | .slice _ n _ => some n
  | .string s => some s.size
  | _ => none
def srcCells (h : AH) (n sz : Nat) : Value → Option (List Value)
  | .slice (some a) _ _ => loadN h a.block a.off (Nat.mul n sz)
  | .string s => some (bytesCells (s.extract 0 n))
  | _ => none
def copyA (h : AH) (sz n : Nat) (base : Option Addr) (src : Value) : Res := bc (Nat.beq n 0) (one (goInt 0) h) (match srcCells h n sz src with
  | none => none
  | some cs => match base with
    | none => none
    | some a => match storeL h a.block a.off cs with
      | some h' => one (goInt (Int.ofNat n)) h'
      | none => none)

def builtinA (h : AH) (b : Builtin) (ts : List TypeId) (args : List Value) : Res :=
  match b with
  | .append => match ts, args with
    | [s, t], [a, x] => appendA P h s t a x
    | _, _ => none
  | .len => match ts, args with
    | [t], [x] => match lenA P h t x with | some v => one v h | none => none
    | _, _ => none
  | .cap => match ts, args with
    | [t], [.slice a _ code] => match desc P t with
      | some (.slice _) => bc (exactC a code) (one (goInt (capOf code)) h) none
      | _ => none
    | _, _ => none
  | .min => match minmax P Builtin.min2 args with | some v => one v h | none => none
  | .max => match minmax P Builtin.max2 args with | some v => one v h | none => none
  | .delete => match ts, args with
    | [t, _], [m, k] => match desc P t with
      | some (.map kt _) => deleteA P h kt m k
      | _ => none
    | _, _ => none
  | .clear => match ts, args with
    | [t], [x] => match clearA P h t x with | some h' => one (.tuple #[]) h' | none => none
    | _, _ => none
  | .copy => match ts, args with
    | [t, _], [.slice base dl _, src] => match desc P t with
      | some (.slice e) => match tsize P e, srcLen src with
        | some sz, some sn => copyA h sz (bc (Nat.ble sn dl) sn dl) base src
        | _, _ => none
      | _ => none
    | _, _ => none
  | _ => none

def strBytes (h : AH) (e : TypeId) (s : ByteArray) : Res := match desc P e with
  | some (.int .u8) => match tsize P e with
    | some 1 => newA h (bytesCells s) e s.size
    | _ => none
  | _ => none
def bytesStr (h : AH) (e : TypeId) (x : Value) : Res := match desc P e with
  | some (.int .u8) => match x with
    | .slice none _ _ => one (.string .empty) h
    | .slice (some a) n _ => bc (Nat.beq n 0) (one (.string .empty) h) (match loadN h a.block a.off n with
      | some l => match cellsBytes l with
        | some bs => one (.string ⟨⟨bs⟩⟩) h
        | none => none
      | none => none)
    | _ => none
  | _ => none
def convClosed (h : AH) (src dst : TypeId) (x : Value) : Res := bc (closedV 3 x) (match prunV P 1000 (convert src dst x) with | some v => one v h | none => none) none
def convertA (h : AH) (src dst : TypeId) (x : Value) : Res :=
  match desc P src with
  | some .string => match desc P dst with
    | some (.slice e) => match x with
      | .string s => strBytes P h e s
      | _ => none
    | _ => convClosed P h src dst x
  | some (.slice e) => match desc P dst with
    | some .string => bytesStr P h e x
    | _ => none
  | _ => convClosed P h src dst x

def nextOne (h : AH) (r m since : Nat) (seen : List Nat) (clock : Nat) (e : MapEntry) : Value × AH :=
  (.tuple #[.bool true, e.key, e.val], h.put r (.mapIter (some m) since (e.born :: seen) clock))
def nextsOf (h : AH) (r m since : Nat) (seen : List Nat) (clock : Nat) : List MapEntry → Res
  | [] => none
  | [e] => match nextOne h r m since seen clock e with | (v, h') => one v h'
  | l => some (.many (l.map (nextOne h r m since seen clock)))
def nextA (h : AH) (it : Value) (isString : Bool) : Res :=
  match placeOf it with
  | some (r, 0) => match h.get r, isString with
    | some (.strIter s pos), true =>
      bc (Nat.blt pos s.size)
        (let (c, width) := Utf8.decode s pos
         one (.tuple #[.bool true, goInt pos, .int .i32 c]) (h.put r (.strIter s (Nat.add pos width))))
        (one (.tuple #[.bool false]) h)
    | some (.mapIter none _ _ _), false => one (.tuple #[.bool false]) h
    | some (.mapIter (some m) since seen stepped), false => match h.get m with
      | some (.map es clock) =>
        -- nothing was put in meanwhile
        bc (bc (allOld since es) (Nat.ble since stepped) false)
          (match leftOf seen es with
           | [] => one (.tuple #[.bool false]) (h.del r)
           | l => nextsOf h r m since seen clock l)
          none
      | _ => none
    | _, _ => none
  | _ => none

def entryA (h : AH) (it : Value) : Option Value :=
  match placeOf it with
  | some (r, 0) => match h.get r with
    | some (.mapIter (some m) _ (b :: _) stepped) => match h.get m with
      | some (.map es clock) => bc (Nat.beq clock stepped) (match findBorn b es 0 with
        | some (_, e) => some (.tuple #[e.key, e.val])
        | none => none) none
      | _ => none
    | _ => none
  | _ => none

def hasBody (f : FuncId) : Bool := match P.fn.get f with | some fn => (match fn.body with | some _ => !(fn.name == "runtime.NumGoroutine") | none => false) | none => false

def atomFind (f : FuncId) : List (FuncId × Atom) → Option Atom
  | [] => none
  | x :: r => bc (Nat.beq x.1 f) (some x.2) (atomFind f r)
def noVal : Value := .tuple ⟨[]⟩
def atomL (h : AH) (k : IntKind) (b off : Nat) : Res := match loadN h b off 1 with
  | some [.int k' x] => bc (decide (k = k')) (one (.int k x) h) none
  | _ => none
def atomS (h : AH) (b off : Nat) (y r : Value) : Res := match storeL h b off [y] with
  | some h' => one r h'
  | none => none
def atomA (h : AH) (k : IntKind) (b off : Nat) (y : Int) : Res := match loadN h b off 1 with
  | some [.int k' x] => bc (decide (k = k')) (atomS h b off (.int k (k.wrap (x + y))) (.int k (k.wrap (x + y)))) none
  | _ => none
def atomR (h : AH) (args : List Value) : Option Atom → Res
  | none => none
  | some (.load k) => match args with
    | [p] => match placeOf p with
      | some (b, off) => atomL h k b off
      | none => none
    | _ => none
  | some .store => match args with
    | [p, .int k y] => match placeOf p with
      | some (b, off) => atomS h b off (.int k y) noVal
      | none => none
    | _ => none
  | some (.add k) => match args with
    | [p, .int k' y] => match placeOf p with
      | some (b, off) => bc (decide (k = k')) (atomA h k b off y) none
      | none => none
    | _ => none
def callA (h : AH) (f : FuncId) (args : List Value) : Res :=
  bc (hasBody P f) (some (.enter f args h)) (atomR h args (atomFind f P.atm))

def optL (T : Env) : Option Operand → Option (Option Value)
  | none => some none
  | some x => match evalO T x with | some v => some (some v) | none => none

 abbrev OpF := Cx → Env → AH → Res
def ret1 (h : AH) (r : Option Value) : Res := match r with | some v => one v h | none => none
def stR (r : Option AH) : Res := match r with | some h' => some (.skip h') | none => none
def ev1 (T : Env) (x : Operand) (k : Value → Res) : Res := match evalO T x with | some v => k v | none => none
def newC (h : AH) (cs : List Value) (e : TypeId) (k : Addr → Value) : Res := one (k ⟨h.next, 0, none⟩) (h.newCells cs e)
def ptrTo (a : Addr) : Value := .pointer (some a)
def opMove (x : Operand) : OpF := fun _ T h => ev1 T x fun v => one v h
def opPick (c a b : Operand) : OpF := fun _ T h => ev1 T c fun
  | .bool t => ev1 T (bc t a b) fun v => one v h
  | _ => none
def opAlloc (e : TypeId) : OpF := fun P _ h => match tzero P e with
  | some z => newC h z e ptrTo
  | none => none
def opBox (e : TypeId) (x : Operand) : OpF := fun P T h => match tsize P e with
  | some _ => ev1 T x fun v => newC h (cellsV v) e ptrTo
  | none => none
def opBuild (t : TypeId) (parts : Array (Nat × Operand)) : OpF := fun P T h => match evalParts T parts.toList with
  | some ps => ret1 h (buildA P t ps)
  | none => none
/-- n elements, all zero -/
def zerosA (P : Cx) (e : TypeId) (n sz : Nat) : Option (List Value) := bc (Nat.beq (Nat.mul n sz) 0) (some []) (match tzero P e with
  | some z => bc (Nat.beq (lenL z) sz) (some (repL n z)) none
  | none => none)
def opBuildSlice (t : TypeId) (len : Nat) (parts : Array (Nat × Operand)) : OpF := fun P T h => match desc P t with
  | some (.slice e) => match tsize P e with
    | some sz => match evalParts T parts.toList with
      | some ps => bc (Nat.ble (Nat.mul len sz) 16777216) (match zerosA P e len sz with
        | some z => match fillA (fun i => some (Nat.mul i sz, sz)) z ps with
          | some cs => newC h cs e fun a => .slice (some a) len (mkCap len true)
          | none => none
        | none => none) none
      | none => none
    | none => none
  | _ => none
def opLoad (t : TypeId) (a : Operand) : OpF := fun P T h => ev1 T a fun p => match placeOf p with
  | some (b, off) => ret1 h (loadV P h t b off)
  | none => none
def opStore (t : TypeId) (a x : Operand) : OpF := fun P T h => ev1 T a fun p => ev1 T x fun v => match placeOf p with
  | some (b, off) => stR (storeV P h t b off v)
  | none => none
def opNilCheck (x : Operand) : OpF := fun _ T h => ev1 T x fun v => match v with
  | .pointer (some _) => one v h
  | .func (.func _) _ _ => one v h
  | _ => none
def intBin (op : BinOp) (k : IntKind) (a b : Int) : Option Value := match op with
  | .add => some (.int k (k.wrap (a + b)))
  | .sub => some (.int k (k.wrap (a - b)))
  | .eql => some (.bool (a == b))
  | .neq => some (.bool (a != b))
  | .lss => some (.bool (decide (a < b)))
  | .leq => some (.bool (decide (a ≤ b)))
  | .gtr => some (.bool (decide (a > b)))
  | .geq => some (.bool (decide (a ≥ b)))
  | _ => none
def binSlow (op : BinOp) (t : TypeId) (x y : Operand) (P : Cx) (a b : Value) : Option Value := eqA P op t x y a b
def sameOp : BinOp → BinOp → Bool
  | .eql, .eql => true
  | .neq, .neq => true
  | .lss, .lss => true
  | .leq, .leq => true
  | .gtr, .gtr => true
  | .geq, .geq => true
  | _, _ => false
/-- a sign beside a number -/
def signed (k : Nat) (op : BinOp) (kk : IntKind) (n : Int) : List (Nat × BinOp × IntKind × Int × Bool) → Option Bool
  | [] => none
  | x :: r => bc (bc (bc (Nat.beq x.1 k) (sameOp x.2.1 op) false) (bc (decide (x.2.2.1 = kk)) (decide (x.2.2.2.1 = n)) false) false) (some x.2.2.2.2) (signed k op kk n r)
/-- the comparison with its sides turned -/
def turned : BinOp → BinOp
  | .lss => .gtr
  | .leq => .geq
  | .gtr => .lss
  | .geq => .leq
  | op => op
def opBin (op : BinOp) (t : TypeId) (x y : Operand) : OpF := fun P T h => ev1 T x fun a => ev1 T y fun b =>
  match a, b with
  | .chan (some k), .int kk n => match signed k op kk n P.sy with
    | some r => one (.bool r) h
    | none => none
  | .int kk n, .chan (some k) => match signed k (turned op) kk n P.sy with
    | some r => one (.bool r) h
    | none => none
  | .int k m, .int k' n => bc (decide (k = k')) (match intBin op k m n with
      | some v => one v h
      | none => ret1 h (binSlow op t x y P a b)) (ret1 h (binSlow op t x y P a b))
  | _, _ => ret1 h (binSlow op t x y P a b)
def opUn (op : UnOp) (x : Operand) : OpF := fun P T h => ev1 T x fun a => bc (closedV 3 a) (ret1 h (prunV P 100 (Op.unary op a))) none
def opConvert (s d : TypeId) (x : Operand) : OpF := fun P T h => ev1 T x fun a => convertA P h s d a
def opMkIface (t : TypeId) (x : Operand) : OpF := fun P T h => ev1 T x fun a => match desc P t with
  | some (.interface _) => none
  | some _ => one (.iface t a) h
  | none => none
def opMkFunc (fn : Fn) (first captured : Array Operand) : OpF := fun _ T h => match fn with
  | .func f => match evalL T first.toList, evalL T captured.toList with
    | some a, some b => one (.func (.func f) ⟨a⟩ ⟨b⟩) h
    | _, _ => none
  | _ => none
def newO (h : AH) (o : AO) (k : Addr → Value) : Res := one (k ⟨h.next, 0, none⟩) (h.newObj o)
def opMkMap (t : TypeId) (r : Option Operand) : OpF := fun P T h => match desc P t with
  | some (.map _ _) => match optL T r with
    | some (some (.int _ _)) => newO h (.map [] 0) fun a => .map (some a.block)
    | some none => newO h (.map [] 0) fun a => .map (some a.block)
    | _ => none
  | _ => none
def opMkSlice (t : TypeId) (l c : Operand) : OpF := fun P T h => ev1 T l fun a => ev1 T c fun b => match natOf a with
  | some l => match natOf b with
    | some c => match desc P t with
      | some (.slice e) => match tsize P e with
        | some sz => match tbytes P e with
          | some by_ => match bc (Option.isSome (tzeroV P e)) (zerosA P e c sz) none with
            | some z => bc (Nat.ble l c) (bc (Nat.ble (Nat.mul (Nat.succ by_) c) 281474976710656)
                (newC h z e fun a => .slice (some a) l (mkCap c true)) none) none
            | none => none
          | none => none
        | none => none
      | _ => none
    | none => none
  | none => none
def sliceArr (P : Cx) (h : AH) (n : Nat) (e : TypeId) (p : Addr) (lo hi : Option Value) : Res :=
  match natD hi n, natD lo 0, tsize P e with
  | some hh, some l, some sz => bc (Nat.ble hh n) (bc (Nat.ble l hh)
      (one (.slice (some (bc (Nat.beq n l) p ⟨p.block, Nat.add p.off (Nat.mul l sz), none⟩)) (Nat.sub hh l) (mkCap (Nat.sub n l) true)) h) none) none
  | _, _, _ => none
def opSlice (t : TypeId) (x : Operand) (lo hi mx : Option Operand) : OpF := fun P T h => ev1 T x fun a => match optL T lo, optL T hi, optL T mx with
  | some lo, some hi, some mx => match desc P t, a with
    | some (.array n e), .pointer (some p) => match mx with
      | none => sliceArr P h n e p lo hi
      | some _ => none
    | some (.pointer at_), .pointer (some p) => match desc P at_, mx with
      | some (.array n e), none => sliceArr P h n e p lo hi
      | _, _ => none
    | _, _ => ret1 h (sliceA P h t a lo hi mx)
  | _, _, _ => none
def opFieldAddr (s : TypeId) (x : Operand) (f : Nat) : OpF := fun P T h => ev1 T x fun p => match placeOf p, fieldOff P s f with
  | some (b, off), some d => one (.pointer (some ⟨b, Nat.add off d, none⟩)) h
  | _, _ => none
def partA (P : Cx) (t : TypeId) (cs : List Value) (off : Nat) : Option Value := match aggT P t with
  | some true => match tsize P t with
    | some n => match takeL n (dropL off cs) with
      | some l => some (.agg ⟨l⟩)
      | none => none
    | none => none
  | some false => getL off cs
  | none => none
def fieldV (P : Cx) (t : TypeId) (x : Value) (f : Nat) : Option Value := match desc P t, x with
  | some (.struct fs), .agg cs => match getL f fs.toList with
    | some fd => partA P fd.type cs.toList fd.offset
    | none => none
  | _, _ => none
def indexV (P : Cx) (t : TypeId) (x : Value) (i : Nat) : Option Value := match desc P t, x with
  | some (.array len e), .agg cs => match tsize P e with
    | some sz => bc (Nat.blt i len) (partA P e cs.toList (Nat.mul i sz)) none
    | none => none
  | some .string, .string s => match getL i s.data.toList with
    | some b => some (.int .u8 b.toNat)
    | none => none
  | _, _ => none
def opField (t : TypeId) (x : Operand) (f : Nat) : OpF := fun P T h => ev1 T x fun a => ret1 h (fieldV P t a f)
def idxAddr (P : Cx) (h : AH) (e : TypeId) (b off i len : Nat) : Res := match tsize P e with
  | some sz => bc (Nat.blt i len) (one (.pointer (some ⟨b, Nat.add off (Nat.mul i sz), none⟩)) h) none
  | none => none
def opIndexAddr (t : TypeId) (x i : Operand) : OpF := fun P T h => ev1 T x fun a => ev1 T i fun i => match natOf i with
  | none => none
  | some i => match desc P t, a with
    | some (.slice e), .slice (some p) len _ => idxAddr P h e p.block p.off i len
    | some (.array len e), .pointer (some p) => idxAddr P h e p.block p.off i len
    | _, _ => none
def opIndex (t : TypeId) (x i : Operand) : OpF := fun P T h => ev1 T x fun a => ev1 T i fun i => match natOf i with
  | some i => ret1 h (indexV P t a i)
  | none => none
def opLookup (t : TypeId) (x k : Operand) (ok : Bool) : OpF := fun P T h => ev1 T x fun m => ev1 T k fun k => ret1 h (lookupA P h t m k ok)
def opMapUpdate (t : TypeId) (m k x : Operand) : OpF := fun P T h => ev1 T m fun m => ev1 T k fun k => ev1 T x fun v => stR (mapSet P h t m k v)
def opMapEntry (t : TypeId) (m k : Operand) : OpF := fun P T h => ev1 T m fun m => ev1 T k fun k => match desc P t, m with
  | some (.map kt et), .map (some r) => match h.get r with
    | some (.map es clock) => match findK P false kt k es with
      | none => none
      | some (some (i, v)) => match getL i es with
        | some e => bc (Instr.sameBits 10000 e.key k) (one (.tuple #[v, goInt e.born]) (h.put r (.map (modL (fun e => { e with key := k }) i es) clock))) none
        | none => none
      | some none => match tzeroV P et with
        | some z => one (.tuple #[z, goInt clock]) (h.put r (.map (appL es [{ key := k, val := z, born := clock }]) (Nat.succ clock)))
        | none => none
    | _ => none
  | _, _ => none
def opEntryStore (m s x : Operand) : OpF := fun _ T h => ev1 T m fun m => ev1 T s fun s => ev1 T x fun v => match m, natOf s with
  | .map (some r), some b => match h.get r with
    | some (.map es clock) => match findBorn b es 0 with
      | some (i, _) => stR (some (h.put r (.map (modL (fun e => { e with val := v }) i es) clock)))
      | none => none
    | _ => none
  | _, _ => none
def opRange (t : TypeId) (x : Operand) : OpF := fun P T h => ev1 T x fun a => match desc P t, a with
  | some .string, .string s => newO h (.strIter s 0) ptrTo
  | some (.map _ _), .map none => newO h (.mapIter none 0 [] 0) ptrTo
  | some (.map _ _), .map (some m) => match h.get m with
    | some (.map _ clock) => newO h (.mapIter (some m) clock [] clock) ptrTo
    | _ => none
  | _, _ => none
def opNext (it : Operand) (s : Bool) : OpF := fun _ T h => ev1 T it fun it => nextA h it s
def opEntry (it : Operand) : OpF := fun _ T h => ev1 T it fun it => ret1 h (entryA h it)
def opExtract (t : Operand) (i : Nat) : OpF := fun _ T h => ev1 T t fun
  | .tuple vs => ret1 h (getL i vs.toList)
  | _ => none
def opBuiltin (b : Builtin) (ts : Array TypeId) (args : Array Operand) : OpF := fun P T h => match evalL T args.toList with
  | some args => builtinA P h b ts.toList args
  | none => none
def opValue (f : Operand) (args : Array Operand) : OpF := fun P T h => ev1 T f fun
  | .func (.func f) first captured => match evalL T args.toList with
    | some args => callA P h f (appL first.toList (appL args captured.toList))
    | none => none
  | .func (.yield l) _ _ => match evalL T args.toList with
    | some args => some (.yield l args h)
    | none => none
  | _ => none
def opNone : OpF := fun _ _ _ => none
def opCall : Call → OpF
  | ⟨.builtin b, args, ts⟩ => opBuiltin b ts args
  | ⟨.value f, args, _⟩ => opValue f args
  | ⟨.invoke .., _, _⟩ => opNone
/-- an operation, made ready -/
structure COp where
  run : OpF
  dst : Option Tmp
  guard : Option (Option Nat × Bool)
  /-- 0 looks at no memory · 1 reads · 2 makes one new block · 3 anything else -/
  kind : Nat
def kindB : Builtin → Nat
  | .len => 1
  | .cap => 0
  | .min => 0
  | .max => 0
  | _ => 3
def kindCall (c : Call) : Nat := match c.callee with
  | .builtin b => kindB b
  | _ => 3
def kindConv (P : Cx) (s d : TypeId) : Nat := match desc P d, desc P s with
  | some (.slice _), _ => 3
  | _, some (.slice _) => 1
  | _, some (.pointer _) => 1
  | _, _ => 0

def compOp (P : Cx) (o : Oper) (g : Option (Option Nat × Bool)) : COp := match o.op with
  | .move x => ⟨opMove x, o.dst, g, 0⟩
  | .assign x => ⟨opMove x, o.dst, g, 3⟩
  | .pick c a b => ⟨opPick c a b, o.dst, g, 0⟩
  | .alloc e => ⟨opAlloc e, o.dst, g, 2⟩
  | .box e x => ⟨opBox e x, o.dst, g, 2⟩
  | .build t parts => ⟨opBuild t parts, o.dst, g, 0⟩
  | .buildSlice t len parts => ⟨opBuildSlice t len parts, o.dst, g, 2⟩
  | .load t a => ⟨opLoad t a, o.dst, g, 1⟩
  | .store t a x => ⟨opStore t a x, o.dst, g, 3⟩
  | .nilCheck x => ⟨opNilCheck x, o.dst, g, 0⟩
  | .binOp op t x y _ => ⟨opBin op t x y, o.dst, g, 0⟩
  | .unOp op _ x => ⟨opUn op x, o.dst, g, 0⟩
  | .convert s d x => ⟨opConvert s d x, o.dst, g, kindConv P s d⟩
  | .makeInterface t x => ⟨opMkIface t x, o.dst, g, 0⟩
  | .makeFunc fn first captured => ⟨opMkFunc fn first captured, o.dst, g, 0⟩
  | .makeMap t r => ⟨opMkMap t r, o.dst, g, 2⟩
  | .makeSlice t l c => ⟨opMkSlice t l c, o.dst, g, 2⟩
  | .slice t x lo hi mx => ⟨opSlice t x lo hi mx, o.dst, g, 1⟩
  | .fieldAddr s x f => ⟨opFieldAddr s x f, o.dst, g, 0⟩
  | .field t x f => ⟨opField t x f, o.dst, g, 0⟩
  | .indexAddr t x i => ⟨opIndexAddr t x i, o.dst, g, 0⟩
  | .index t x i => ⟨opIndex t x i, o.dst, g, 0⟩
  | .lookup t x k ok => ⟨opLookup t x k ok, o.dst, g, 1⟩
  | .mapUpdate t m k x => ⟨opMapUpdate t m k x, o.dst, g, 3⟩
  | .insert t m k x => ⟨opMapUpdate t m k x, o.dst, g, 3⟩
  | .mapEntry t m k => ⟨opMapEntry t m k, o.dst, g, 3⟩
  | .entryStore _ m s x => ⟨opEntryStore m s x, o.dst, g, 3⟩
  | .range t x => ⟨opRange t x, o.dst, g, 3⟩
  | .next it s => ⟨opNext it s, o.dst, g, 3⟩
  | .entry it => ⟨opEntry it, o.dst, g, 1⟩
  | .extract t i => ⟨opExtract t i, o.dst, g, 0⟩
  | .call c => ⟨opCall c, o.dst, g, kindCall c⟩
  | _ => ⟨opNone, o.dst, g, 3⟩
/-- a guard: the slot of the operation that it looks at -/
def guardOf (ops : Array Oper) (o : Oper) : Option (Option Nat × Bool) := match o.guard with
  | none => none
  | some (j, want) => some ((ops[j]?).bind (·.dst), want)
def compOps (P : Cx) (ops : Array Oper) : List Oper → List COp
  | [] => []
  | o :: r => compOp P o (guardOf ops o) :: compOps P ops r

def putE (E : Env) (dst : Option Tmp) (v : Value) : Env :=
  match dst with
  | some d => ⟨(d, v) :: E.loc, E.all⟩
  | none => E
def flush (mask : Nat) (T : Tr Value) (l : List (Nat × Value)) : Tr Value :=
  List.rec (motive := fun _ => Tr Value) T (fun x _ ih => Bool.rec ih (ih.put x.1 (some x.2)) (Nat.testBit mask x.1)) l

def resultsA (h : AH) (T : Env) : List ResultVar → Option (List Value)
  | [] => some []
  | .tmp t :: r => match T.get t with
    | some v => (resultsA h T r).map (v :: ·)
    | none => none
  | .cell a t :: r => match T.get a with
    | some p => match placeOf p with
      | some (b, off) => match loadV P h t b off with
        | some v => (resultsA h T r).map (v :: ·)
        | none => none
      | none => none
    | none => none
def tupleA : List Value → Value
  | [v] => v
  | l => .tuple ⟨l⟩
def putM (m : Nat) (T : Tr Value) (t : Nat) (v : Value) : Tr Value := bc (Nat.testBit m t) (T.put t (some v)) T
def setAll (m : Nat) (T : Tr Value) : List Tmp → List Value → Tr Value
  | t :: ts, v :: vs => setAll m (putM m T t v) ts vs
  | _, _ => T
def argsT (m : Nat) (T : Tr Value) (i : Nat) : List Value → Tr Value
  | [] => T
  | v :: r => argsT m (putM m T i v) (Nat.succ i) r

-- a region that draws: what an effect waits for, then the effect; what no effect waits for, last
/-- what each operation waits for, as bits -/
def waitE (bs : List Nat) : List Edge → Nat
  | [] => 0
  | e :: r => bc (Region.binds .any e) (Nat.lor (Nat.shiftLeft 1 e.on) (Nat.lor ((getL e.on bs).getD 0) (waitE bs r))) (waitE bs r)
def waits (bs : List Nat) : List Oper → List Nat
  | [] => bs
  | o :: r => waits (appL bs [waitE bs o.after.toList]) r
def bitOf (x : Operand) : Nat := match x with | .tmp t => Nat.shiftLeft 1 t | _ => 0
def readsOf : List Operand → Nat
  | [] => 0
  | x :: r => Nat.lor (bitOf x) (readsOf r)
/-- an operation in its place: its number, what it waits for, which variables it looks at -/
structure PO where
  i : Nat
  w : Nat
  rb : Nat
  c : COp
def guardBit : Option (Option Nat × Bool) → Nat
  | some (some d, _) => Nat.shiftLeft 1 d
  | _ => 0
def places (i : Nat) : List Nat → List Oper → List COp → List PO
  | w :: ws, o :: os, c :: cs => ⟨i, w, Nat.lor (readsOf o.op.operands.toList) (guardBit c.guard), c⟩ :: places (Nat.succ i) ws os cs
  | _, _, _ => []
def effsOf : List PO → List PO
  | [] => []
  | p :: r => bc (Nat.ble 3 p.c.kind) (p :: effsOf r) (effsOf r)
/-- what waits for an operation -/
def behindP (e : PO) : List PO → List PO
  | [] => []
  | p :: r => bc (Nat.testBit p.w e.i) (p :: behindP e r) (behindP e r)
/-- what does not wait for it -/
def aheadP (e : PO) : List PO → List PO
  | [] => []
  | p :: r => bc (bc (Nat.testBit p.w e.i) true (Nat.beq p.i e.i)) (aheadP e r) (p :: aheadP e r)
/-- each as early as may be, the effects in their row -/
def order : List PO → List PO → List PO
  | [], l => l
  | e :: es, l => appL (aheadP e l) (e :: order es (behindP e l))
/-- 'x' may be carried out ahead of 'y'; an effect must be; neither turns what the other looks at, but where 'y' waits for 'x' -/
def dOff (d : Option Tmp) (rb : Nat) : Bool := match d with
  | none => true
  | some d => bc (Nat.testBit rb d) false true
def dNe (d e : Option Tmp) : Bool := match d with
  | none => true
  | some d => match e with
    | none => true
    | some e => bc (Nat.beq d e) false true
def pairOK (x y : PO) : Bool :=
  bc (bc (bc (Nat.testBit x.w y.i) true (Nat.beq x.i y.i)) false (bc (bc (Nat.testBit y.w x.i) (Nat.ble 3 y.c.kind) false) true (bc (dOff y.c.dst x.rb) (dNe x.c.dst y.c.dst) false)))
    (bc (Nat.testBit y.w x.i) true (bc (Nat.ble 3 x.c.kind) false (dOff x.c.dst y.rb))) false
def pairsOK (x : PO) : List PO → Bool
  | [] => true
  | y :: r => bc (pairOK x y) (pairsOK x r) false
def selfOK (x : PO) : Bool := bc (Nat.ble 3 x.c.kind) true (dOff x.c.dst x.rb)
def orderOK : List PO → Bool
  | [] => true
  | x :: r => bc (bc (Nat.beq (Nat.shiftRight x.w x.i) 0) (bc (selfOK x) (pairsOK x r) false) false) (orderOK r) false
def idxBits : List PO → Nat
  | [] => 0
  | x :: r => Nat.lor (Nat.shiftLeft 1 x.i) (idxBits r)
structure Plan where
  ok : Bool
  l : List PO
  n : Nat
def planL (n : Nat) (l : List PO) : Plan := ⟨bc (Nat.beq (lenL l) n) (bc (Nat.beq (idxBits l) (Nat.pred (Nat.shiftLeft 1 n))) (orderOK l) false) false, l, n⟩
def planP (ps : List PO) : Plan := planL (lenL ps) (order (effsOf ps) ps)
def planOf (P : Cx) (ops : Array Oper) : Plan := planP (places 0 (waits [] ops.toList) ops.toList (compOps P ops ops.toList))

-- which variables are read outside the region that makes them
/-- what a list of operations reads that it has not made -/
def exposed (made : Nat) : List Oper → Nat
  | [] => 0
  | o :: r => Nat.lor (Nat.land (readsOf o.op.operands.toList) (Nat.xor (Nat.lor made (readsOf o.op.operands.toList)) made))
      (exposed (match o.dst with | some d => Nat.lor made (Nat.shiftLeft 1 d) | none => made) r)
def maskC : Code → Nat
  | .seq a b => Nat.lor (maskC a) (maskC b)
  | .cond x a b => Nat.lor (bitOf x) (Nat.lor (maskC a) (maskC b))
  | .block _ b => maskC b
  | .scope b => maskC b
  | .loop b => maskC b
  | .rangeFunc f _ a b => Nat.lor (bitOf f) (Nat.lor (maskC a) (maskC b))
  | .region _ ops _ => exposed 0 ops.toList
  | _ => 0
def maskR : List ResultVar → Nat
  | [] => 0
  | .tmp t :: r => Nat.lor (Nat.shiftLeft 1 t) (maskR r)
  | .cell t _ :: r => Nat.lor (Nat.shiftLeft 1 t) (maskR r)

structure S where
  e : EX
  T : Tr Value
  h : AH
 abbrev Out := Outs S
 abbrev VH := Value × AH
structure Rec where
  call : FuncId → List Value → AH → Outs VH
  loop : Code → Nat → Tr Value → AH → Out
  yld : Nat → List Value → AH → Outs VH

def listO {α : Type} : List α → Outs α
  | [] => .fail
  | [a] => .one a
  | a :: r => .more a (listO r)

def wantedE (E : Env) : Option (Option Nat × Bool) → Option Bool
  | none => some true
  | some (none, _) => none
  | some (some d, want) => match E.get d with
    | some (.bool b) => some (bc want b (bc b false true))
    | some (.tuple _) => some false
    | _ => none
 abbrev KK := Env → AH → Out
def opsX (R : Rec) (ih : KK) (E : Env) (dst : Option Tmp) (x : R1) : Out :=
  R1.casesOn (motive := fun _ => Out) x (fun v h' => ih (putE E dst v) h') (fun h' => ih (putE E dst undef) h')
    (fun f args h' => (R.call f args h').bind fun x => ih (putE E dst x.1) x.2)
    (fun l args h' => (R.yld l args h').bind fun x => ih (putE E dst x.1) x.2)
    (fun l => (listO l).bind fun x => ih (putE E dst x.1) x.2)
def opsStep (P : Cx) (R : Rec) (o : COp) (ih : KK) (E : Env) (h : AH) : Out :=
  Option.rec (motive := fun _ => Out) .fail (fun w => Bool.rec (motive := fun _ => Out) (ih (putE E o.dst undef) h)
    (Option.rec (motive := fun _ => Out) .fail (opsX R ih E o.dst) (o.run P E h)) w) (wantedE E o.guard)
def opsEnd (mask : Nat) (E : Env) (h : AH) : Out := .one ⟨.normal, flush mask E.all E.loc, h⟩
/-- the operations of a region -/
def opsL (P : Cx) (R : Rec) (mask : Nat) (l : List COp) : KK :=
  List.rec (motive := fun _ => KK) (opsEnd mask) (fun o _ ih => opsStep P R o ih) l
/-- blocks that have a number but do not stand in the heap yet: they come in, those that are waited for -/
def matStep (P : Cx) (E : Env) (w : Nat) (x : PO × Nat) (ih : AH → Option AH) (h : AH) : Option AH :=
  bc (Nat.testBit w x.1.i) (match x.1.c.run P E { h with next := x.2 } with
    | some (.val _ h') => ih { h' with next := h.next }
    | _ => none) (ih h)
def matP (P : Cx) (E : Env) (w : Nat) (l : List (PO × Nat)) : AH → Option AH :=
  List.rec (motive := fun _ => AH → Option AH) (fun h => some h) (fun x _ ih => matStep P E w x ih) l
def leftP (w : Nat) (l : List (PO × Nat)) : List (PO × Nat) :=
  List.rec (motive := fun _ => List (PO × Nat)) [] (fun x _ ih => bc (Nat.testBit w x.1.i) ih (x :: ih)) l
def leftR (w : Nat) (l : List PO) : List PO :=
  List.rec (motive := fun _ => List PO) [] (fun x _ ih => bc (Nat.testBit w x.i) ih (x :: ih)) l
/-- what an operation that reads gives -/
def readP (P : Cx) (E : Env) (h : AH) (pend : List (PO × Nat)) (o : PO) : Option Value := match matP P E o.w pend h with
  | some h1 => match o.c.run P E h1 with
    | some (.val v _) => some v
    | _ => none
  | none => none
def sameD (E : Env) (d : Option Tmp) (v : Value) : Bool := match d with
  | none => true
  | some d => match E.get d with
    | some u => veq 6 v u
    | none => false
/-- what has been read reads the same -/
def again1 (P : Cx) (E : Env) (h : AH) (pend : List (PO × Nat)) (o : PO) (ih : Bool) : Bool := match readP P E h pend o with
  | some v => bc (sameD E o.c.dst v) ih false
  | none => false
def again (P : Cx) (E : Env) (h : AH) (pend : List (PO × Nat)) (l : List PO) : Bool :=
  List.rec (motive := fun _ => Bool) true (fun o _ ih => again1 P E h pend o ih) l
def allW : Nat := Nat.pred (Nat.shiftLeft 1 1024)
/-- the operations of a region that draws, in the order of its plan; 'pend': blocks that do not stand in the heap yet; 'rd': what has been read and might be read later -/
 abbrev DK := Env → AH → List (PO × Nat) → List PO → Out
def drawEnd (P : Cx) (mask : Nat) (E : Env) (h : AH) (pend : List (PO × Nat)) : Out := match matP P E allW pend h with
  | some h' => .one ⟨.normal, flush mask E.all E.loc, h'⟩
  | none => .fail
def drawN (P : Cx) (o : PO) (ih : DK) (E : Env) (h : AH) (pend : List (PO × Nat)) (rd : List PO) : Out :=
  bc (again P E h (leftP o.w pend) (leftR o.w rd)) (ih E h (leftP o.w pend) (leftR o.w rd)) .fail
def drawX (P : Cx) (R : Rec) (o : PO) (ih : DK) (E : Env) (pend : List (PO × Nat)) (rd : List PO) (x : R1) : Out := match x with
  | .val v h' => drawN P o ih (putE E o.c.dst v) h' pend rd
  | .skip h' => drawN P o ih (putE E o.c.dst undef) h' pend rd
  | .enter f args h' => (R.call f args h').bind fun x => drawN P o ih (putE E o.c.dst x.1) x.2 pend rd
  | .yield l args h' => (R.yld l args h').bind fun x => drawN P o ih (putE E o.c.dst x.1) x.2 pend rd
  | _ => .fail
def drawEff (P : Cx) (R : Rec) (o : PO) (ih : DK) (b : Bool) (E : Env) (h : AH) (pend : List (PO × Nat)) (rd : List PO) : Out := match matP P E o.w pend h with
  | none => .fail
  | some h1 => bc b (match o.c.run P E h1 with
    | none => .fail
    | some x => drawX P R o ih E pend rd x) (drawN P o ih (putE E o.c.dst undef) h1 pend rd)
def drawPure (P : Cx) (o : PO) (ih : DK) (E : Env) (h : AH) (pend : List (PO × Nat)) (rd : List PO) : Out := match o.c.run P E h with
  | some (.val v _) => ih (putE E o.c.dst v) h pend rd
  | _ => .fail
def drawRead (P : Cx) (o : PO) (ih : DK) (E : Env) (h : AH) (pend : List (PO × Nat)) (rd : List PO) : Out := match readP P E h pend o with
  | some v => ih (putE E o.c.dst v) h pend (o :: rd)
  | none => .fail
def drawNew (P : Cx) (base : Nat) (o : PO) (ih : DK) (E : Env) (h : AH) (pend : List (PO × Nat)) (rd : List PO) : Out := match o.c.run P E { h with next := Nat.add base o.i } with
  | some (.val v _) => ih (putE E o.c.dst v) h ((o, Nat.add base o.i) :: pend) rd
  | _ => .fail
def drawStep (P : Cx) (R : Rec) (base : Nat) (o : PO) (ih : DK) (E : Env) (h : AH) (pend : List (PO × Nat)) (rd : List PO) : Out := match wantedE E o.c.guard with
  | none => .fail
  | some b => bc (Nat.ble 3 o.c.kind) (drawEff P R o ih b E h pend rd) (bc b (bc (Nat.beq o.c.kind 0) (drawPure P o ih E h pend rd)
      (bc (Nat.beq o.c.kind 1) (drawRead P o ih E h pend rd) (drawNew P base o ih E h pend rd))) (ih (putE E o.c.dst undef) h pend rd))
def drawL (P : Cx) (R : Rec) (mask base : Nat) (l : List PO) : DK :=
  List.rec (motive := fun _ => DK) (fun E h pend _ => drawEnd P mask E h pend) (fun o _ ih => drawStep P R base o ih) l
def drawP (P : Cx) (R : Rec) (mask : Nat) (p : Plan) (T : Tr Value) (h : AH) : Out :=
  bc p.ok (drawL P R mask h.next p.l ⟨[], T⟩ { h with next := Nat.add h.next p.n } [] []) .fail

structure CC where
  run : Cx → Rec → Nat → Tr Value → AH → Out

def afterSeq (P : Cx) (R : Rec) (mask : Nat) (b : CC) (s : S) : Out := match s.e with
  | .normal => b.run P R mask s.T s.h
  | _ => .one s
def afterLoop (R : Rec) (mask : Nat) (c : Code) (s : S) : Out := match s.e with
  | .normal => R.loop c mask s.T s.h
  | _ => .one s
def afterBlock (id : Nat) (s : S) : Out := match s.e with
  | .exit id' => .one ⟨bc (Nat.beq id' id) .normal (.exit id'), s.T, s.h⟩
  | _ => .one s
def afterRange (l : Nat) (T : Tr Value) (x : VH) : Out := match x.2.get l with
  | some (.loop _ _ _ _ _ e) => .one ⟨e, T, x.2.del l⟩
  | _ => .fail
def cRange (P : Cx) (f : Operand) (params : Array Tmp) (assign body : Code) (R : Rec) (m : Nat) (T : Tr Value) (h : AH) : Out := match evalO ⟨[], T⟩ f with
  | some (.func (.func g) first captured) => bc (hasBody P g)
    ((R.call g (appL first.toList (.func (.yield h.next) #[] #[] :: captured.toList)) (h.newObj (.loop T params.toList assign body m .normal))).bind (afterRange h.next T)) .fail
  | _ => .fail
def runCond (x : Operand) (a b : CC) (P : Cx) (R : Rec) (mask : Nat) (T : Tr Value) (h : AH) : Out := match evalO ⟨[], T⟩ x with
  | some (.bool t) => bc t (a.run P R mask T h) (b.run P R mask T h)
  | _ => .fail
def compC (c : Code) : CC := match c with
  | .skip => ⟨fun _ _ _ T h => .one ⟨.normal, T, h⟩⟩
  | .label _ => ⟨fun _ _ _ T h => .one ⟨.normal, T, h⟩⟩
  | .ret => ⟨fun _ _ _ T h => .one ⟨.ret, T, h⟩⟩
  | .exit id => ⟨fun _ _ _ T h => .one ⟨.exit id, T, h⟩⟩
  | .seq a b => ⟨fun P R mask T h => ((compC a).run P R mask T h).bind (afterSeq P R mask (compC b))⟩
  | .cond x a b => ⟨runCond x (compC a) (compC b)⟩
  | .block id b => ⟨fun P R mask T h => ((compC b).run P R mask T h).bind (afterBlock id)⟩
  | .loop b => ⟨fun P R mask T h => ((compC b).run P R mask T h).bind (afterLoop R mask (.loop b))⟩
  | .rangeFunc f params assign body => ⟨fun P R m T h => cRange P f params assign body R m T h⟩
  | .region _ ops draw => ⟨fun P R mask T h => bc draw (drawP P R mask (planOf P ops) T h) (opsL P R mask (compOps P ops ops.toList) ⟨[], T⟩ h)⟩
  | _ => ⟨fun _ _ _ _ _ => .fail⟩

def endCall (P : Cx) (rs : List ResultVar) (T : Tr Value) (h : AH) : Outs VH := match resultsA P h ⟨[], T⟩ rs with
  | some vs => .one (tupleA vs, h)
  | none => .fail
def afterBody (P : Cx) (rs : List ResultVar) (s : S) : Outs VH := match s.e with
  | .exit _ => .fail
  | _ => endCall P rs s.T s.h
structure CF where
  code : CC
  mask : Nat
  rs : List ResultVar
/-- no range over a function in it -/
def noRF : Code → Bool
  | .seq a b => bc (noRF a) (noRF b) false
  | .cond _ a b => bc (noRF a) (noRF b) false
  | .block _ b => noRF b
  | .scope b => noRF b
  | .loop b => noRF b
  | .rangeFunc .. => false
  | _ => true
/-- the variables that code makes are numbers below n -/
def bndO (n : Nat) : List Oper → Bool
  | [] => true
  | o :: r => bc (match o.dst with | some d => Nat.blt d n | none => true) (bndO n r) false
def bndT (n : Nat) : List Nat → Bool
  | [] => true
  | t :: r => bc (Nat.blt t n) (bndT n r) false
def bndC (n : Nat) : Code → Bool
  | .seq a b => bc (bndC n a) (bndC n b) false
  | .cond _ a b => bc (bndC n a) (bndC n b) false
  | .block _ b => bndC n b
  | .scope b => bndC n b
  | .loop b => bndC n b
  | .rangeFunc _ ps a b => bc (bndT n ps.toList) (bc (bc (bndC n a) (noRF a) false) (bc (bndC n b) (noRF b) false) false) false
  | .region _ ops _ => bndO n ops.toList
  | _ => true
def compF (P : Cx) (f : FuncId) : Option CF := match P.fn.get f with
  | some fn => match fn.body with
    | some c => match P.msk.get f with
      | some m => bc (bndC fn.ntmps c) (some ⟨compC c, m, fn.results.toList⟩) none
      | none => none
    | none => none
  | none => none
/-- the masks, as a list to be written out -/
def masksOf (P : Program) : List Nat := P.funcs.toList.map fun fn => match fn.body with
  | some c => Nat.lor (maskC c) (maskR fn.results.toList)
  | none => 0
-- outcomes that are one: of a call that has turned nothing that there was, and hands back a value without addresses, or a row of such
inductive Seal where
  | val (v : Value)
  | row (off len code : Nat) (cs : List Value) (e : TypeId)
def sealOf (k : Nat) (x : VH) : Option Seal :=
  bc (Nat.ble k x.2.lo) (bc (closedV 6 x.1) (some (.val x.1)) (match x.1 with
    | .slice (some a) len code => match a.spot with
      | none => match x.2.get a.block with
        | some (.cells cs e _) => bc (bc (Nat.ble k a.block) (closedV.allL 6 cs) false) (some (.row a.off len code cs e)) none
        | _ => none
      | some _ => none
    | _ => none)) none
def sealEq : Seal → Seal → Bool
  | .val v, .val u => veq 6 v u
  | .row o l c cs e, .row o' l' c' cs' e' => bc (Nat.beq o o') (bc (Nat.beq l l') (bc (Nat.beq c c') (bc (Nat.beq e e') (veq.all 6 cs cs') false) false) false) false
  | _, _ => false
def sealAll (k : Nat) (s : Seal) : Outs VH → Bool
  | .fail => false
  | .one a => match sealOf k a with
    | some t => sealEq s t
    | none => false
  | .more a r => match sealOf k a with
    | some t => bc (sealEq s t) (sealAll k s r) false
    | none => false
def openSeal (h : AH) : Seal → VH
  | .val v => (v, h)
  | .row off len code cs e => (.slice (some ⟨h.next, off, none⟩) len code, h.newCells cs e)
def settle (h : AH) (o : Outs VH) : Outs VH := match o with
  | .more a r => match sealOf h.next a with
    | some s => bc (sealAll h.next s r) (.one (openSeal h s)) o
    | none => o
  | o => o
def lowVH (k : Nat) (x : VH) : Outs VH := .one (x.1, { x.2 with lo := minN k x.2.lo })

/-- is the call one that is not gone into? -/
def orcFind (f : FuncId) (args : List Value) : List (FuncId × List Value × Value) → Option Value
  | [] => none
  | x :: r => bc (bc (Nat.beq x.1 f) (veq.all 6 x.2.1 args) false) (some x.2.2) (orcFind f args r)
/-- new signs for what is not known -/
def signs (n : Nat) : List Value → List Value × Nat
  | [] => ([], n)
  | .chan none :: r => match signs (Nat.succ n) r with
    | (l, m) => (.chan (some n) :: l, m)
  | v :: r => match signs n r with
    | (l, m) => (v :: l, m)
def orcOut (h : AH) (res : Value) : Outs VH := match res with
  | .agg cs => match signs h.next cs.toList with
    | (l, m) => bc (orcOK cs.toList) (.one (.agg ⟨l⟩, { h with next := m })) .fail
  | .chan none => .one (.chan (some h.next), { h with next := Nat.succ h.next })
  | v => bc (closedV 6 v) (.one (v, h)) .fail
 where orcOK : List Value → Bool
  | [] => true
  | .chan none :: r => orcOK r
  | v :: r => bc (closedV 6 v) (orcOK r) false
def callO (P : Cx) (g : Outs VH) (f : FuncId) (args : List Value) (h : AH) : Outs VH := match P.orc with
  | [] => g
  | l => match orcFind f args l with
    | some res => orcOut h res
    | none => g
def callF (P : Cx) (R : Rec) (f : FuncId) (args : List Value) (h : AH) : Outs VH := match compF P f with
  | some c => (settle { h with lo := h.next } ((c.code.run P R c.mask (argsT c.mask .leaf 0 args) { h with lo := h.next }).bind (afterBody P c.rs))).bind (lowVH h.lo)
  | none => .fail
def loopF (P : Cx) (R : Rec) (c : Code) (mask : Nat) (T : Tr Value) (h : AH) : Out := (compC c).run P R mask T h
def yldEnd (m l : Nat) (T : Tr Value) (params : List Tmp) (assign body : Code) (s : S) : Outs VH :=
  .one (.bool (match s.e with | .normal => true | _ => false), s.h.put l (.loop T params assign body m s.e))
def yldMid (P : Cx) (R : Rec) (mask l : Nat) (body : Code) (s : S) : Outs VH := match s.e with
  | .normal => match s.h.get l with
    | some (.loop T params assign body' m .normal) => ((compC body).run P R mask s.T (s.h.del l)).bind (yldEnd m l T params assign body')
    | _ => .fail
  | _ => .fail
def yldF (P : Cx) (R : Rec) (l : Nat) (args : List Value) (h : AH) : Outs VH := match h.get l with
  | some (.loop T params assign body m .normal) =>
    bc (Nat.beq (lenL params) (lenL args)) (((compC assign).run P R m (setAll m T params args) h).bind (yldMid P R m l body)) .fail
  | _ => .fail
/-- does the cell hold this number? -/
def cellIs (h : AH) (b off : Nat) (k : IntKind) (n : Int) : Bool := match loadN h b off 1 with
  | some [.int k' x] => bc (decide (k' = k)) (decide (x = n)) false
  | _ => false
/-- the call that the lock guards: behind it, before it -/
def onceEnd (b off : Nat) (x : VH) : Outs VH := bc (cellIs x.2 b (Nat.succ off) .i32 1) (match storeL x.2 b off [.int .u32 1] with
    | some h1 => match storeL h1 b (Nat.succ off) [.int .i32 0] with
      | some h2 => .one (noVal, h2)
      | none => .fail
    | none => .fail) .fail
def onceMid (R : Rec) (b off : Nat) (g : FuncId) (args : List Value) (h : AH) : Outs VH := bc (bc (cellIs h b off .u32 0) (cellIs h b (Nat.succ off) .i32 0) false) (match storeL h b (Nat.succ off) [.int .i32 1] with
    | some h1 => (R.call g args h1).bind (onceEnd b off)
    | none => .fail) .fail
def onceA (P : Cx) (R : Rec) (args : List Value) (h : AH) : Outs VH := match args with
  | [p, .func (.func g) first cap] => match placeOf p with
    | some (b, off) => bc (hasBody P g) (onceMid R b off g (appL first.toList cap.toList) h) .fail
    | none => .fail
  | _ => .fail
def callN (P : Cx) (R : Rec) (f : FuncId) (args : List Value) (h : AH) : Outs VH := match P.onc with
  | none => callF P R f args h
  | some d => bc (Nat.beq d f) (onceA P R args h) (callF P R f args h)
-- known calls
def entEq : List MapEntry → List MapEntry → Bool
  | [], [] => true
  | a :: r, b :: s => bc (bc (veq 6 a.key b.key) (bc (veq 6 a.val b.val) (Nat.beq a.born b.born) false) false) (entEq r s) false
  | _, _ => false
def aoEq : AO → AO → Bool
  | .cells cs e g, .cells cs' e' g' => bc (Nat.beq e e') (bc (Nat.beq g g') (veq.all 6 cs cs') false) false
  | .map es c, .map es' c' => bc (Nat.beq c c') (entEq es es') false
  | _, _ => false
def subL (h : AH) : List (Nat × AO) → Bool
  | [] => true
  | x :: r => match h.get x.1 with
    | some o => bc (aoEq o x.2) (subL h r) false
    | none => false
def idIn (b : Nat) : List (Nat × AO) → Bool
  | [] => false
  | x :: r => bc (Nat.beq x.1 b) true (idIn b r)
def allIn (l : List (Nat × AO)) : List Nat → Bool
  | [] => true
  | b :: r => bc (idIn b l) (allIn l r) false
/-- whose rows share memory with one of the list are in the list -/
def grpIn (h : AH) (l : List (Nat × AO)) : List (Nat × AO) → Bool
  | [] => true
  | x :: r => match x.2 with
    | .cells _ _ g => match h.grps.get g with
      | some m => bc (allIn l m) (grpIn h l r) false
      | none => false
    | _ => grpIn h l r
def trOff (t : Tr AO) : List (Nat × AO) → Tr AO
  | [] => t
  | x :: r => trOff (t.put x.1 none) r
def trOn (t : Tr AO) : List (Nat × AO) → Tr AO
  | [] => t
  | x :: r => trOn (t.put x.1 (some x.2)) r
def gOff (t : Tr (List Nat)) : List (Nat × AO) → Tr (List Nat)
  | [] => t
  | x :: r => match x.2 with
    | .cells _ _ g => gOff (t.put g (some [])) r
    | _ => gOff t r
def gMore (b : Nat) : Option (List Nat) → List Nat
  | some m => b :: m
  | none => [b]
def gOn (t : Tr (List Nat)) : List (Nat × AO) → Tr (List Nat)
  | [] => t
  | x :: r => match x.2 with
    | .cells _ _ g => gOn (t.put g (some (gMore x.1 (t.get g)))) r
    | _ => gOn t r
def mkH (n : Nat) (l : List (Nat × AO)) : AH := { tr := trOn .leaf l, next := n, grps := gOn .leaf l, lo := 0 }
def useH (h : AH) (e : ME) : AH := { tr := trOn (trOff h.tr e.l0) e.l1, next := e.n1, grps := gOn (gOff (gOff h.grps e.l0) e.l1) e.l1, lo := 0 }
def memoFind (f n : Nat) : List ME → Nat → Option ME
  | [], _ => none
  | e :: r, i => bc (Nat.beq i 0) none (bc (bc (Nat.beq e.f f) (Nat.beq e.n0 n) false) (some e) (memoFind f n r (Nat.pred i)))
def callM (P : Cx) (i : Nat) (g : Outs VH) (f : FuncId) (args : List Value) (h : AH) : Outs VH := bc (Nat.testBit P.mmask f) (match memoFind f h.next P.memo i with
  | some e => bc (bc (veq.all 6 e.args args) (bc (subL h e.l0) (grpIn h e.l0 e.l0) false) false) (.one (e.v, useH h e)) g
  | none => g) g
def stepR (P : Cx) (i : Nat) (R : Rec) : Rec := { call := fun f args h => callO P (callM P i (callN P R f args h) f args h) f args h, loop := loopF P R, yld := yldF P R }
def rec0 : Rec := { call := fun _ _ _ => .fail, loop := fun _ _ _ _ => .fail, yld := fun _ _ _ => .fail }
def evalR (P : Cx) (i : Nat) : Nat → Rec
  | 0 => rec0
  | n+1 => stepR P i (evalR P i n)
def evalCall (P : Cx) (i n : Nat) (f : FuncId) (args : List Value) (h : AH) : Outs VH := (evalR P i n).call f args h
def meOne (e : ME) (x : VH) : Bool := bc (veq 6 x.1 e.v) (bc (Nat.ble x.2.next e.n1) (subL x.2 e.l1) false) false
def meCheck (e : ME) : Outs VH → Bool
  | .fail => false
  | .one x => meOne e x
  | .more x r => bc (meOne e x) (meCheck e r) false
/-- is the call what the entry says? the first i entries are taken for known -/
def memoRun (P : Cx) (i n : Nat) (e : ME) : Bool := bc (subL (mkH e.n1 e.l1) e.l1) (meCheck e (callN P (evalR P i n) e.f e.args (mkH e.n0 e.l0))) false
def Outs.list {α : Type} : Outs α → Option (List α)
  | .fail => none
  | .one a => some [a]
  | .more a r => (Outs.list r).map (a :: ·)
end
end Go.Ev
