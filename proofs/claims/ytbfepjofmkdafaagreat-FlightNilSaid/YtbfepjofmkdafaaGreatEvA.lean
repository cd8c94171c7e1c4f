/- The abstract evaluator (own work): data. -/
import GoSem.Dispatch
import GoSem.Core.Region
namespace Go.Ev
noncomputable section

inductive Tr (α : Type) where
  | leaf
  | node (v : Option α) (l r : Tr α)
 deriving Inhabited

 universe u
 @[reducible] noncomputable def bc {α : Sort u} (b : Bool) (t f : α) : α := Bool.rec f t b

namespace Tr
variable {α : Type}
noncomputable def get (t : Tr α) : Nat → Option α :=
  Tr.rec (motive := fun _ => Nat → Option α) (fun _ => none)
    (fun v _ _ gl gr k => Bool.rec (Bool.rec (gr (Nat.pred (Nat.div k 2))) (gl (Nat.div k 2)) (Nat.beq (Nat.mod k 2) 1)) v (Nat.beq k 0)) t
noncomputable def setLeaf (ih : Tr α → Nat → Option α → Tr α) (k : Nat) (x : Option α) : Tr α :=
  Bool.rec (Bool.rec (.node none .leaf (ih .leaf (Nat.pred (Nat.div k 2)) x)) (.node none (ih .leaf (Nat.div k 2) x) .leaf) (Nat.beq (Nat.mod k 2) 1)) (.node x .leaf .leaf) (Nat.beq k 0)
noncomputable def setNode (ih : Tr α → Nat → Option α → Tr α) (k : Nat) (x : Option α) (v : Option α) (l r : Tr α) : Tr α :=
  Bool.rec (Bool.rec (.node v l (ih r (Nat.pred (Nat.div k 2)) x)) (.node v (ih l (Nat.div k 2) x) r) (Nat.beq (Nat.mod k 2) 1)) (.node x l r) (Nat.beq k 0)
noncomputable def set (f : Nat) : Tr α → Nat → Option α → Tr α :=
  Nat.rec (motive := fun _ => Tr α → Nat → Option α → Tr α) (fun t _ _ => t)
    (fun _ ih t k x => Tr.rec (motive := fun _ => Tr α) (setLeaf ih k x) (fun v l r _ _ => setNode ih k x v l r) t) f
noncomputable def put (t : Tr α) (k : Nat) (x : Option α) : Tr α := set (Nat.succ (Nat.log2 (Nat.succ k))) t k x
end Tr

inductive EX where
  | normal
  | exit (id : Nat)
  | ret
 deriving Inhabited, DecidableEq

/-- what a run may come to: nothing known, one thing, or one of some -/
inductive Outs (α : Type) where
  | fail
  | one (a : α)
  | more (a : α) (r : Outs α)
 deriving Inhabited
namespace Outs
variable {α β : Type}
def app : Outs β → Outs β → Outs β
  | .fail, _ => .fail
  | .one a, r => match r with
    | .fail => .fail
    | r => .more a r
  | .more a r, s => match app r s with
    | .fail => .fail
    | t => .more a t
def bind : Outs α → (α → Outs β) → Outs β
  | .fail, _ => .fail
  | .one a, f => f a
  | .more a r, f => app (f a) (bind r f)
end Outs

inductive AO where
  | loop (T : Tr Value) (params : List Tmp) (assign body : Code) (mask : Nat) (pending : EX)
  | cells (cs : List Value) (elem : TypeId) (grp : Nat)
  | map (es : List MapEntry) (clock : Nat)
  | mapIter (m : Option Nat) (since : Nat) (seen : List Nat) (stepped : Nat)
  | strIter (s : ByteArray) (pos : Nat)
 deriving Inhabited

structure AH where
  tr : Tr AO
  next : Nat
  grps : Tr (List Nat)
  /-- no block below it has been turned since it was set -/
  lo : Nat
 deriving Inhabited

def memN (x : Nat) : List Nat → Bool
  | [] => false
  | y :: r => bc (Nat.beq x y) true (memN x r)
/-- what stands at a block; a row of cells only if its group still counts it -/
def AH.get (h : AH) (b : Nat) : Option AO := match h.tr.get b with
  | some (.cells cs e g) => match h.grps.get g with
    | some l => bc (memN b l) (some (.cells cs e g)) none
    | none => none
  | o => o
def minN (a b : Nat) : Nat := bc (Nat.ble a b) a b
def AH.put (h : AH) (b : Nat) (o : AO) : AH := { h with tr := h.tr.put b (some o), lo := minN h.lo b }
def AH.del (h : AH) (b : Nat) : AH := { h with tr := h.tr.put b none, lo := minN h.lo b }
/-- a new block -/
def AH.newCells (h : AH) (cs : List Value) (e : TypeId) : AH :=
  { tr := h.tr.put h.next (some (.cells cs e h.next)), next := Nat.succ h.next, grps := h.grps.put h.next (some [h.next]), lo := h.lo }
def AH.newObj (h : AH) (o : AO) : AH := { h with tr := h.tr.put h.next (some o), next := Nat.succ h.next }
/-- a row of cells is written: all others of its group go -/
def AH.putCells (h : AH) (b : Nat) (cs : List Value) (e : TypeId) (g : Nat) : AH :=
  { h with tr := h.tr.put b (some (.cells cs e g)), lo := minN h.lo (minN b g), grps := match h.grps.get g with
      | some [_] => h.grps
      | _ => h.grps.put g (some [b]) }
/-- a row that may share memory with the row 'keep': all others of the group go -/
def AH.newBeside (h : AH) (g keep : Nat) (cs : List Value) (e : TypeId) : AH :=
  { tr := h.tr.put h.next (some (.cells cs e g)), next := Nat.succ h.next, grps := h.grps.put g (some [h.next, keep]), lo := minN h.lo g }

-- lists of cells

def dropL {α : Type} (n : Nat) : List α → List α :=
  Nat.rec (motive := fun _ => List α → List α) (fun l => l) (fun _ ih l => List.rec (motive := fun _ => List α) [] (fun _ r _ => ih r) l) n
def consO {α : Type} (x : α) (r : Option (List α)) : Option (List α) := Option.rec (motive := fun _ => Option (List α)) none (fun r => some (x :: r)) r
def takeL {α : Type} (n : Nat) : List α → Option (List α) :=
  Nat.rec (motive := fun _ => List α → Option (List α)) (fun _ => some []) (fun _ ih l => List.rec (motive := fun _ => Option (List α)) none (fun x r _ => consO x (ih r)) l) n
def splice0 {α : Type} (new : List α) : List α → Option (List α) :=
  List.rec (motive := fun _ => List α → Option (List α)) (fun l => some l) (fun y _ ih l => List.rec (motive := fun _ => Option (List α)) none (fun _ r _ => consO y (ih r)) l) new
def spliceL {α : Type} (n : Nat) (new : List α) : List α → Option (List α) :=
  Nat.rec (motive := fun _ => List α → Option (List α)) (fun l => splice0 new l) (fun _ ih l => List.rec (motive := fun _ => Option (List α)) none (fun x r _ => consO x (ih r)) l) n
def getL {α : Type} (n : Nat) : List α → Option α :=
  Nat.rec (motive := fun _ => List α → Option α) (fun l => List.rec (motive := fun _ => Option α) none (fun x _ _ => some x) l) (fun _ ih l => List.rec (motive := fun _ => Option α) none (fun _ r _ => ih r) l) n
def appL {α : Type} (a b : List α) : List α := List.rec (motive := fun _ => List α) b (fun x _ ih => x :: ih) a
def lenL {α : Type} (l : List α) : Nat := List.rec (motive := fun _ => Nat) 0 (fun _ _ ih => Nat.succ ih) l
def repL {α : Type} (n : Nat) (l : List α) : List α := Nat.rec (motive := fun _ => List α) [] (fun _ ih => appL l ih) n

/-- no address lies in it -/
def closedV : Nat → Value → Bool
  | 0, _ => false
  | n+1, v => match v with
    | .bool _ | .int _ _ | .string _ | .float _ _ | .nilFunc | .nilIface => true
    | .pointer none | .map none => true
    | .slice none 0 0 => true
    | .agg cs => allL n cs.toList
    | .tuple cs => allL n cs.toList
    | .iface _ v => closedV n v
    | _ => false
 where allL (n : Nat) : List Value → Bool
  | [] => true
  | v :: r => bc (closedV n v) (allL n r) false
-- tables as trees
def evensL {α : Type} : List α → List α
  | [] => []
  | x :: r => x :: oddsL r
 where oddsL : List α → List α
  | [] => []
  | _ :: r => evensL r
def ofL {α : Type} : Nat → List α → Tr α
  | 0, _ => .leaf
  | _+1, [] => .leaf
  | n+1, x :: r => .node (some x) (ofL n (evensL r)) (ofL n (evensL.oddsL r))

/-- a call whose outcome is known: where it stands, what it reads, what is there behind it -/
structure ME where
  f : FuncId
  args : List Value
  n0 : Nat
  l0 : List (Nat × AO)
  v : Value
  n1 : Nat
  l1 : List (Nat × AO)
 deriving Inhabited
/-- functions without a body: what they do to a cell -/
inductive Atom where
  | load (k : IntKind)
  | store
  | add (k : IntKind)
/-- a program, its tables as trees, and which variables of a function are kept from region to region (that alone is no part of what is shown) -/
structure Cx where
  P : Program
  ty : Tr TypeInfo
  fn : Tr Func
  msk : Tr Nat
  /-- calls that are not gone into: a function, its arguments, what it hands back ('.chan none': a new sign) -/
  orc : List (FuncId × List Value × Value)
  /-- what a comparison of a sign with a number comes to -/
  sy : List (Nat × BinOp × IntKind × Int × Bool)
  atm : List (FuncId × Atom)
  /-- a call that takes a lock, calls what it is handed, writes a mark, lets the lock go -/
  onc : Option FuncId
  /-- known calls, and whose -/
  memo : List ME
  mmask : Nat
def mkCx (P : Program) (masks : List Nat) (orc : List (FuncId × List Value × Value)) (sy : List (Nat × BinOp × IntKind × Int × Bool)) (atm : List (FuncId × Atom)) (onc : Option FuncId) (memo : List ME) (mmask : Nat) : Cx :=
  { P, ty := ofL 20 P.types.toList, fn := ofL 20 P.funcs.toList, msk := ofL 20 masks, orc, sy, atm, onc, memo, mmask }

variable (P : Cx)
def descOf (d : TypeDesc) : Option TypeDesc := match d with
  | .named _ u => (P.ty.get u).map (·.desc)
  | d => some d
def desc (t : TypeId) : Option TypeDesc := match P.ty.get t with
  | some i => descOf P i.desc
  | none => none
def tsize (t : TypeId) : Option Nat := match P.ty.get t with
  | some i => some i.size
  | none => none
def tbytes (t : TypeId) : Option Nat := match P.ty.get t with
  | some i => some i.bytes
  | none => none
def tzeroV (t : TypeId) : Option Value := match P.ty.get t with
  | some i => match i.zero with
    | some z => bc (closedV 4 z) (some z) none
    | none => none
  | none => none
def tzero (t : TypeId) : Option (List Value) := match tzeroV P t with
  | some (.agg cs) => some cs.toList
  | some v => some [v]
  | none => none
def aggT (t : TypeId) : Option Bool := match desc P t with
  | some (.struct _) => some true
  | some (.array _ _) => some true
  | some _ => some false
  | none => none
/-- where a field of a struct lies -/
def fieldOff (s : TypeId) (f : Nat) : Option Nat :=
  match desc P s with
  | some (.struct fs) => match getL f fs.toList with
    | some x => match tsize P x.type with
      | some 0 => none
      | some _ => some x.offset
      | none => none
    | none => none
  | _ => none

/-- a run that looks at no memory -/
def prun {α : Type} : Nat → Sem α → Option α
  | 0, _ => none
  | _+1, .pure a => some a
  | n+1, .program k => prun n (k P.P)
  | _, _ => none

/-- one value, to the sign -/
def veq : Nat → Value → Value → Bool
  | 0, _, _ => false
  | n+1, a, b => match a, b with
    | .bool x, .bool y => bc x y (bc y false true)
    | .int k x, .int k' y => bc (decide (k = k')) (decide (x = y)) false
    | .string x, .string y => decide (x.data.toList = y.data.toList)
    | .pointer none, .pointer none => true
    | .pointer (some x), .pointer (some y) => decide (x = y)
    | .slice none l c, .slice none l' c' => bc (Nat.beq l l') (Nat.beq c c') false
    | .slice (some x) l c, .slice (some y) l' c' => bc (decide (x = y)) (bc (Nat.beq l l') (Nat.beq c c') false) false
    | .map none, .map none => true
    | .map (some x), .map (some y) => Nat.beq x y
    | .chan (some x), .chan (some y) => Nat.beq x y
    | .nilFunc, .nilFunc => true
    | .nilIface, .nilIface => true
    | .func (.func f) a b, .func (.func g) a' b' => bc (Nat.beq f g) (bc (all n a.toList a'.toList) (all n b.toList b'.toList) false) false
    | .iface t x, .iface u y => bc (Nat.beq t u) (veq n x y) false
    | .agg a, .agg b => all n a.toList b.toList
    | .tuple a, .tuple b => all n a.toList b.toList
    | _, _ => false
 where all (n : Nat) : List Value → List Value → Bool
  | [], [] => true
  | a :: r, b :: s => bc (veq n a b) (all n r s) false
  | _, _ => false
end
end Go.Ev
