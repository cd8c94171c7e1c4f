/- What an abstract heap says of a world (own work). -/
import Derived.Test.YtbfepjofmkdafaaGreatEvS1
import Derived.WalkKit
import Derived.RangeFuncLeaves
import Derived.RangeFuncCalls
import Derived.OrdersIn
namespace Go.Ev

/-- where an abstract block lies: the block, the first cell, how many cells an element of its row takes, how many cells there are -/
structure Img where
  blk : Nat
  sh : Nat
  sz : Nat
  tot : Nat
  /-- what a sign stands for -/
  v : Value
 abbrev Mu := Nat → Option Img
def Mu.le (M M' : Mu) : Prop := ∀ b i, M b = some i → M' b = some i
theorem Mu.le_refl (M : Mu) : M.le M := fun _ _ h => h
theorem Mu.le_trans {A B C : Mu} (h : A.le B) (k : B.le C) : A.le C := fun b i x => k b i (h b i x)

 mutual
/-- an abstract value and a value -/
inductive VR (M : Mu) : Value → Value → Prop
  | bool (b : Bool) : VR M (.bool b) (.bool b)
  | int (k : IntKind) (n : Int) : VR M (.int k n) (.int k n)
  | float (k : FloatKind) (n : Nat) : VR M (.float k n) (.float k n)
  | string (s : ByteArray) : VR M (.string s) (.string s)
  | ptr0 : VR M (.pointer none) (.pointer none)
  | ptr (b off : Nat) (i : Img) (h : M b = some i) : VR M (.pointer (some ⟨b, off, none⟩)) (.pointer (some ⟨i.blk, i.sh + off, none⟩))
  | slice0 : VR M (.slice none 0 0) (.slice none 0 0)
  | slice (b off len code : Nat) (i : Img) (off' c' : Nat) (h : M b = some i) (ho : off' = i.sh + off ∨ (len = 0 ∧ c' = 0)) (hl : len ≤ code / 2) (hc : code / 2 ≤ c')
      (hex : code % 2 = 1 → c' = code / 2) (hroom : code % 2 = 0 → off' + c' * i.sz ≤ i.tot) :
      VR M (.slice (some ⟨b, off, none⟩) len code) (.slice (some ⟨i.blk, off', none⟩) len c')
  | map0 : VR M (.map none) (.map none)
  | map (b : Nat) (i : Img) (h : M b = some i) : VR M (.map (some b)) (.map (some i.blk))
  | nilFunc : VR M .nilFunc .nilFunc
  | nilIface : VR M .nilIface .nilIface
  | func (f : FuncId) (a a' c c' : List Value) (ha : VRs M a a') (hc : VRs M c c') : VR M (.func (.func f) ⟨a⟩ ⟨c⟩) (.func (.func f) ⟨a'⟩ ⟨c'⟩)
  | yield (l : Nat) (i : Img) (h : M l = some i) : VR M (.func (.yield l) #[] #[]) (.func (.yield i.blk) #[] #[])
  | iface (t : TypeId) (v v' : Value) (h : VR M v v') : VR M (.iface t v) (.iface t v')
  | agg (c c' : List Value) (h : VRs M c c') : VR M (.agg ⟨c⟩) (.agg ⟨c'⟩)
  | sym (k : Nat) (i : Img) (u : Value) (h : M k = some i) (hu : u = i.v) (ho : u.oneCell' = true) : VR M (.chan (some k)) u
  | tuple (c c' : List Value) (h : VRs M c c') : VR M (.tuple ⟨c⟩) (.tuple ⟨c'⟩)
inductive VRs (M : Mu) : List Value → List Value → Prop
  | nil : VRs M [] []
  | cons (v v' : Value) (r r' : List Value) (h : VR M v v') (hr : VRs M r r') : VRs M (v :: r) (v' :: r')
 end

section
variable {M M' : Mu}
 mutual
theorem VR.mono (hM : M.le M') : ∀ {v v' : Value}, VR M v v' → VR M' v v'
  | _, _, .bool b => .bool b
  | _, _, .int k n => .int k n
  | _, _, .float k n => .float k n
  | _, _, .string s => .string s
  | _, _, .ptr0 => .ptr0
  | _, _, .ptr b off i h => .ptr b off i (hM _ _ h)
  | _, _, .slice0 => .slice0
  | _, _, .slice b off len code i off' c' h ho hl hc hex hroom => .slice b off len code i off' c' (hM _ _ h) ho hl hc hex hroom
  | _, _, .map0 => .map0
  | _, _, .map b i h => .map b i (hM _ _ h)
  | _, _, .nilFunc => .nilFunc
  | _, _, .nilIface => .nilIface
  | _, _, .func f a a' c c' ha hc => .func f a a' c c' (VRs.mono hM ha) (VRs.mono hM hc)
  | _, _, .yield l i h => .yield l i (hM _ _ h)
  | _, _, .iface t v v' h => .iface t v v' (VR.mono hM h)
  | _, _, .agg c c' h => .agg c c' (VRs.mono hM h)
  | _, _, .sym k i u h hu ho => .sym k i u (hM _ _ h) hu ho
  | _, _, .tuple c c' h => .tuple c c' (VRs.mono hM h)
theorem VRs.mono (hM : M.le M') : ∀ {v v' : List Value}, VRs M v v' → VRs M' v v'
  | _, _, .nil => .nil
  | _, _, .cons v v' r r' h hr => .cons v v' r r' (VR.mono hM h) (VRs.mono hM hr)
 end

theorem VRs.length : ∀ {l l' : List Value}, VRs M l l' → l.length = l'.length
  | _, _, .nil => rfl
  | _, _, .cons _ _ _ _ _ hr => congrArg (· + 1) hr.length
theorem VRs.get : ∀ {l l' : List Value}, VRs M l l' → ∀ (k : Nat) (v : Value), l[k]? = some v → ∃ u, l'[k]? = some u ∧ VR M v u
  | _, _, .nil, k, v, h => by simp at h
  | _, _, .cons _ v' _ _ h hr, 0, _, e => by simp at e; subst e; exact ⟨v', by simp, h⟩
  | _, _, .cons _ _ _ _ _ hr, k + 1, v, e => by simpa using hr.get k v (by simpa using e)
theorem VRs.of_get : ∀ {l l' : List Value}, l.length = l'.length → (∀ (k : Nat) (v : Value), l[k]? = some v → ∃ u, l'[k]? = some u ∧ VR M v u) → VRs M l l'
  | [], [], _, _ => .nil
  | [], _ :: _, h, _ => by simp at h
  | _ :: _, [], h, _ => by simp at h
  | v :: r, v' :: r', h, g => by
    obtain ⟨u, hu, hv⟩ := g 0 v (by simp)
    simp at hu; subst hu
    exact .cons _ _ _ _ hv (.of_get (by simpa using h) fun k x hx => by simpa using g (k + 1) x (by simpa using hx))
theorem VRs.app : ∀ {a a' b b' : List Value}, VRs M a a' → VRs M b b' → VRs M (a ++ b) (a' ++ b')
  | _, _, _, _, .nil, hb => hb
  | _, _, _, _, .cons _ _ _ _ h hr, hb => .cons _ _ _ _ h (hr.app hb)
theorem VRs.take {l l' : List Value} (h : VRs M l l') (n : Nat) : VRs M (l.take n) (l'.take n) := by
  induction n generalizing l l' with
  | zero => simpa using VRs.nil
  | succ n ih => cases h with
    | nil => simpa using VRs.nil
    | cons v v' r r' h hr => simpa using VRs.cons _ _ _ _ h (ih hr)
theorem VRs.drop {l l' : List Value} (h : VRs M l l') (n : Nat) : VRs M (l.drop n) (l'.drop n) := by
  induction n generalizing l l' with
  | zero => simpa using h
  | succ n ih => cases h with
    | nil => simpa using VRs.nil
    | cons v v' r r' h hr => simpa using ih hr

-- values without addresses
theorem closed_lists {n : Nat} (hn : ∀ {v c : Value}, closedV n v = true → VR M v c → c = v) :
    ∀ {v c : List Value}, closedV.allL n v = true → VRs M v c → c = v := by
  intro v
  induction v with
  | nil => intro c _ h; cases h; rfl
  | cons x r ih =>
    intro c h hv
    have h' := bc_and (show bc (closedV n x) (closedV.allL n r) false = true from h)
    cases hv with
    | cons _ v' _ r' hx hr => rw [hn h'.1 hx, ih h'.2 hr]
theorem closed_eq : ∀ (n : Nat) {v c : Value}, closedV n v = true → VR M v c → c = v := by
  intro n
  induction n with
  | zero => intro v c h; simp [closedV] at h
  | succ n ih =>
    intro v c h hv
    cases hv with
    | ptr => simp [closedV] at h
    | slice => simp [closedV] at h
    | map => simp [closedV] at h
    | func => simp [closedV] at h
    | yield => simp [closedV] at h
    | sym => simp [closedV] at h
    | iface t v v' hv => rw [ih (by simpa [closedV] using h) hv]
    | agg c c' hc => rw [closed_lists ih (by simpa [closedV] using h) hc]
    | tuple c c' hc => rw [closed_lists ih (by simpa [closedV] using h) hc]
    | _ => rfl
theorem closeds_eq (n : Nat) {v c : List Value} (h : closedV.allL n v = true) (hv : VRs M v c) : c = v := closed_lists (closed_eq n) h hv
theorem closeds_refl_of {n : Nat} (hn : ∀ {v : Value}, closedV n v = true → VR M v v) : ∀ {v : List Value}, closedV.allL n v = true → VRs M v v := by
  intro v
  induction v with
  | nil => intro _; exact .nil
  | cons x r ih =>
    intro h
    have h' := bc_and (show bc (closedV n x) (closedV.allL n r) false = true from h)
    exact .cons _ _ _ _ (hn h'.1) (ih h'.2)
theorem closed_refl : ∀ (n : Nat) {v : Value}, closedV n v = true → VR M v v := by
  intro n
  induction n with
  | zero => intro v h; simp [closedV] at h
  | succ n ih =>
    intro v h
    cases v with
    | bool b => exact .bool b
    | int k m => exact .int k m
    | float k m => exact .float k m
    | complex k a b => simp [closedV] at h
    | string s => exact .string s
    | pointer a => cases a with
      | none => exact .ptr0
      | some a => simp [closedV] at h
    | slice a l c => cases a with
      | none => cases l with
        | zero => cases c with
          | zero => exact .slice0
          | succ c => simp [closedV] at h
        | succ l => simp [closedV] at h
      | some a => simp [closedV] at h
    | map r => cases r with
      | none => exact .map0
      | some r => simp [closedV] at h
    | chan r => simp [closedV] at h
    | func f a c => simp [closedV] at h
    | nilFunc => exact .nilFunc
    | iface t v => exact .iface t v v (ih (by simpa [closedV] using h))
    | nilIface => exact .nilIface
    | agg c => obtain ⟨c⟩ := c; exact .agg c c (closeds_refl_of ih (by simpa [closedV] using h))
    | tuple c => obtain ⟨c⟩ := c; exact .tuple c c (closeds_refl_of ih (by simpa [closedV] using h))
theorem closeds_refl (n : Nat) {v : List Value} (h : closedV.allL n v = true) : VRs M v v := closeds_refl_of (closed_refl n) h
end
end Go.Ev
