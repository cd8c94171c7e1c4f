/- Tables, operands, memory of one row (own work). -/
import Derived.Test.YtbfepjofmkdafaaGreatEvS4
import Derived.Laws.LoneSync
namespace Go.Ev
variable {P : Cx} {M : Mu} {h h' : AH} {w w' : World}

/-- what a function without a body is: facts that the kernel looks up -/
def AtmOK (p : Program) (f : FuncId) (a : Atom) : Prop := ∃ fn, p.funcs[f]? = some fn ∧ (fn.name == "runtime.NumGoroutine") = false ∧ fn.body.isNone = true ∧ Extern.findNext fn = none ∧
  Extern.find fn = some (match a with
    | .load k => Extern.Atomic.loadT (.int k)
    | .store => Extern.Atomic.storeT
    | .add k => Extern.Atomic.update (Op.intArith .add) k true)
/-- the slow road of sync.Once, by a walk of its own -/
def OnceLaw (p : Program) (f : FuncId) : Prop := ∀ (b off : Nat) (g : FuncId) (first cap : Array Value) (w : World) (Q : Ending → World → Prop),
  w.cell? ⟨b, off, none⟩ = some (.int .u32 0) → w.cell? ⟨b, off + 1, none⟩ = some (.int .i32 0) → w.frozen? ⟨b, off + 1, none⟩ = false →
  (∀ args w, (callFunc g args).run p w = .ok (.enter g args) w) →
  (Calls p g (first ++ cap) (w.setCell ⟨b, off + 1, none⟩ (.int .i32 1)) fun e w1 => ∃ v u, e = .returned v ∧ w1.cell? ⟨b, off, none⟩ = some u ∧ w1.frozen? ⟨b, off, none⟩ = false ∧
    w1.cell? ⟨b, off + 1, none⟩ = some (.int .i32 1) ∧ w1.frozen? ⟨b, off + 1, none⟩ = false ∧
    Q (.returned (.tuple #[])) ((w1.drew.setCell ⟨b, off, none⟩ (.int .u32 1)).setCell ⟨b, off + 1, none⟩ (.int .i32 0))) →
  Calls p f #[.pointer (some ⟨b, off, none⟩), .func (.func g) first cap] w Q
/-- what is asked of the program's tables: facts that the kernel looks up -/
structure CxOK (P : Cx) : Prop where
  atm : ∀ f a, atomFind f P.atm = some a → AtmOK P.P f a
  onc : ∀ f, P.onc = some f → OnceLaw P.P f
  ty : ∀ t i, P.ty.get t = some i → P.P.types[t]? = some i
  fn : ∀ f g, P.fn.get f = some g → P.P.funcs[f]? = some g
  order : P.P.follows .mixedOrders = true

theorem info_of (ok : CxOK P) {t : TypeId} {i : TypeInfo} (hi : P.ty.get t = some i) : P.P.info? t = some i := by
  have h1 := ok.ty t i hi
  have h2 := (Array.getElem?_eq_some_iff.1 h1).1
  unfold Tables.info?
  rw [if_pos h2]; exact h1
theorem desc_of (ok : CxOK P) {t : TypeId} {d : TypeDesc} (hd : desc P t = some d) : P.P.underlying t = some d := by
  unfold desc at hd
  cases hi : P.ty.get t with
  | none => rw [hi] at hd; cases hd
  | some i =>
    rw [hi] at hd
    have h1 := info_of ok hi
    unfold Program.underlying
    rw [h1]
    obtain ⟨d0, s1, s2, s3, s4, s5, s6, s7, s8, s9⟩ := i
    simp only [descOf] at hd
    cases d0 with
    | named nm u =>
      simp only at hd ⊢
      cases hu : P.ty.get u with
      | none => rw [hu] at hd; cases hd
      | some iu =>
        rw [hu] at hd
        rw [info_of ok hu]; exact hd
    | _ => exact hd
theorem run_und (ok : CxOK P) {t : TypeId} {d : TypeDesc} (hd : desc P t = some d) (w : World) : (underlying t).run P.P w = .ok d w := run_underlying (desc_of ok hd) w
theorem tsize_info {t n : Nat} (hn : tsize P t = some n) : ∃ i, P.ty.get t = some i ∧ i.size = n := by
  unfold tsize at hn
  cases hi : P.ty.get t with
  | none => rw [hi] at hn; cases hn
  | some i => rw [hi] at hn; cases hn; exact ⟨i, rfl, rfl⟩
theorem run_size (ok : CxOK P) {t n : Nat} (hn : tsize P t = some n) (w : World) : (sizeOf t).run P.P w = .ok n w := by
  obtain ⟨i, hi, rfl⟩ := tsize_info hn
  simp [sizeOf, typeInfo, info_of ok hi]
theorem cells_size (ok : CxOK P) {t n : Nat} (hn : tsize P t = some n) : P.P.cellsOf t = n := by
  obtain ⟨i, hi, rfl⟩ := tsize_info hn
  simp [Program.cellsOf, info_of ok hi]
theorem tzeroV_of (ok : CxOK P) {t : TypeId} {z : Value} (hz : tzeroV P t = some z) : (∀ w, (zeroValue t).run P.P w = .ok z w) ∧ closedV 4 z = true := by
  unfold tzeroV at hz
  cases hi : P.ty.get t with
  | none => rw [hi] at hz; cases hz
  | some i =>
    rw [hi] at hz
    simp only at hz
    cases hi0 : i.zero with
    | none => rw [hi0] at hz; cases hz
    | some z' =>
      rw [hi0] at hz
      obtain ⟨hc, hz'⟩ := bc_some hz
      cases hz'
      exact ⟨fun w => by simp [zeroValue, typeInfo, info_of ok hi, hi0], hc⟩
theorem tzero_of (ok : CxOK P) {t : TypeId} {z : List Value} (hz : tzero P t = some z) : ∃ v, (∀ w, (zeroValue t).run P.P w = .ok v w) ∧ v.cells.toList = z ∧ ∀ M : Mu, VRs M z z := by
  unfold tzero at hz
  cases hv : tzeroV P t with
  | none => rw [hv] at hz; cases hz
  | some v =>
    rw [hv] at hz
    obtain ⟨h1, h2⟩ := tzeroV_of ok hv
    refine ⟨v, h1, ?_⟩
    cases v with
    | agg cs =>
      simp only [Option.some.injEq] at hz
      subst hz
      exact ⟨rfl, fun M => closeds_refl 3 (by simpa [closedV] using h2)⟩
    | _ =>
      simp only [Option.some.injEq] at hz
      subst hz
      exact ⟨rfl, fun M => .cons _ _ _ _ (closed_refl 4 h2) .nil⟩
theorem run_aggT (ok : CxOK P) {t : TypeId} {b : Bool} (hb : aggT P t = some b) (w : World) : (isAgg t).run P.P w = .ok b w := by
  unfold aggT at hb
  cases hd : desc P t with
  | none => rw [hd] at hb; cases hb
  | some d =>
    rw [hd] at hb
    simp only [isAgg, Sem.run_bind, run_und ok hd, Result.andThen_ok]
    cases d <;> simp only [Option.some.injEq] at hb <;> subst hb <;> rfl

-- operands
/-- the variables of a frame, and its temporaries -/
def ER (M : Mu) (E : Env) (t : Array Value) : Prop := ∀ k v, E.get k = some v → ∃ u, t[k]? = some u ∧ VR M v u
theorem ER.mono {M M' : Mu} (hM : M.le M') {E : Env} {t : Array Value} (e : ER M E t) : ER M' E t :=
  fun k v hk => let ⟨u, hu, hv⟩ := e k v hk; ⟨u, hu, hv.mono hM⟩
theorem getLoc_nil (k : Nat) (T : Tr Value) : getLoc k T [] = T.get k := rfl
theorem getLoc_cons (k : Nat) (T : Tr Value) (x : Nat × Value) (r : List (Nat × Value)) : getLoc k T (x :: r) = if x.1 = k then some x.2 else getLoc k T r := by
  show bc (Nat.beq x.1 k) (some x.2) (getLoc k T r) = _
  rw [bc_eq]
  by_cases hh : x.1 = k
  · simp [hh]
  · rw [if_neg hh, if_neg]; intro e; exact hh (beqN e)
theorem ER.of_tr {T : Tr Value} {t : Array Value} (e : TR M T t) : ER M ⟨[], T⟩ t := e
/-- a variable is written -/
theorem ER.put {E : Env} {a : Act} {dst : Option Tmp} {v u : Value} (e : ER M E a.tmps) (hv : VR M v u) (hd : ∀ d, dst = some d → d < a.tmps.size) : ER M (putE E dst v) (a.put dst u).tmps := by
  cases dst with
  | none => exact e
  | some d =>
    intro k x hk
    have hk' : (if d = k then some v else E.get k) = some x := by
      rw [← hk]
      exact (getLoc_cons k E.all (d, v) E.loc).symm
    simp only [Act.put]
    by_cases hd' : d = k
    · rw [if_pos hd'] at hk'; cases hk'
      exact ⟨u, by rw [← hd']; simp [hd d rfl], hv⟩
    · rw [if_neg hd'] at hk'
      obtain ⟨y, hy, hxy⟩ := e k x hk'
      exact ⟨y, by rw [Array.getElem?_setIfInBounds_ne (by omega)]; exact hy, hxy⟩
theorem evalO_ok {E : Env} {a : Act} {x : Operand} {v : Value} (e : ER M E a.tmps) (hx : evalO E x = some v) : VR M v (a.eval x) := by
  cases x with
  | tmp t =>
    obtain ⟨u, hu, hv⟩ := e t v hx
    show VR M v (a.tmps.getD t undef)
    rw [Array.getD_eq_getD_getElem?, hu]; exact hv
  | const c => obtain ⟨hc, he⟩ := bc_some hx; cases he; exact closed_refl 4 hc
  | global g => cases hx
  | func f => cases hx; exact .func f [] [] [] [] .nil .nil
theorem evalL_ok {E : Env} {a : Act} (e : ER M E a.tmps) : ∀ {xs : List Operand} {vs : List Value}, evalL E xs = some vs → VRs M vs (xs.map a.eval) := by
  intro xs
  induction xs with
  | nil => intro vs hx; cases hx; exact .nil
  | cons x r ih =>
    intro vs hx
    simp only [evalL] at hx
    cases h1 : evalO E x with
    | none => rw [h1] at hx; cases hx
    | some v =>
      rw [h1] at hx
      cases h2 : evalL E r with
      | none => rw [h2] at hx; cases hx
      | some l => rw [h2] at hx; cases hx; exact .cons _ _ _ _ (evalO_ok e h1) (ih h2)

-- memory of one row
theorem cell_of {g o : Nat} {c : Array Value} {t : TypeId} {fz : Nat × Nat} (hg : w.heap[g]? = some (.cells c t fz)) : w.cell? ⟨g, o, none⟩ = c[o]? := by
  simp [World.cell?, hg]
theorem add_off (g o n : Nat) : (⟨g, o, none⟩ : Addr).add n = ⟨g, o + n, none⟩ := by
  unfold Addr.add; by_cases hn : n = 0 <;> simp [hn]
/-- cells are read -/
theorem run_load_row {p : Program} {g o : Nat} {c : Array Value} {t : TypeId} {fz : Nat × Nat} (hg : w.heap[g]? = some (.cells c t fz)) (n : Nat) (hn : o + n ≤ c.size) :
    (loadCells ⟨g, o, none⟩ n).run p w = .ok ((c.toList.drop o).take n).toArray w := by
  have hl : ((c.toList.drop o).take n).length = n := by simp; omega
  have := run_loadCells_list (P := p) w ⟨g, o, none⟩ ((c.toList.drop o).take n) (fun j v hj => by
    rw [add_off, cell_of hg]
    have hj' : j < n := by
      rcases Nat.lt_or_ge j n with q | q
      · exact q
      · rw [List.getElem?_eq_none (by omega)] at hj; cases hj
    rw [List.getElem?_take_of_lt hj', List.getElem?_drop] at hj
    simpa using hj)
  rw [hl] at this
  exact this
/-- cells are written -/
theorem run_store_row {p : Program} {g o : Nat} {t : TypeId} {fz : Nat × Nat} : ∀ (vs : List Value) (i : Nat) (c : Array Value) (w : World), w.heap[g]? = some (.cells c t fz) →
    (∀ k, k < c.size → fz.1 ≤ k → ¬ k < fz.2) → o + i + vs.length ≤ c.size → (∀ v ∈ vs, v.oneCell' = true) →
    ∃ w' c', (storeCells ⟨g, o, none⟩ vs i).run p w = .ok () w' ∧ Turn w w' g ∧ w'.heap[g]? = some (.cells c' t fz) ∧ c'.size = c.size ∧
      c'.toList = c.toList.take (o + i) ++ vs ++ c.toList.drop (o + i + vs.length) := by
  intro vs
  induction vs with
  | nil =>
    intro i c w hg _ _ _
    exact ⟨w, c, rfl, ⟨⟨rfl, rfl, rfl⟩, rfl, fun _ _ => rfl⟩, hg, rfl, by simp⟩
  | cons v r ih =>
    intro i c w hg hf hn hv
    simp only [List.length_cons] at hn
    have hcell : w.cell? ⟨g, o + i, none⟩ = some c[o + i] := by rw [cell_of hg]; simp
    have hfz : w.frozen? ⟨g, o + i, none⟩ = false := by
      simp only [World.frozen?, hg]
      have := hf (o + i) (by omega)
      simp only [Bool.and_eq_false_iff, decide_eq_false_iff_not]
      by_cases q : fz.1 ≤ o + i
      · right; exact this q
      · left; exact q
    have hset : (w.setCell ⟨g, o + i, none⟩ v).heap[g]? = some (.cells (c.setIfInBounds (o + i) v) t fz) := by
      simp [World.setCell, Array.getElem?_modify, hg]
    have ht : Turn w (w.setCell ⟨g, o + i, none⟩ v) g :=
      ⟨⟨rfl, rfl, rfl⟩, by simp [World.setCell], fun y hy => by simp only [World.setCell, Array.getElem?_modify]; rw [if_neg (fun e => hy e.symm)]⟩
    obtain ⟨w', c', h1, h2, h3, h4, h5⟩ := ih (i + 1) (c.setIfInBounds (o + i) v) _ hset (fun k hk => hf k (by simpa using hk)) (by simp; omega) (fun x hx => hv x (by simp [hx]))
    refine ⟨w', c', ?_, ⟨⟨h2.os.trans ht.os, h2.tape.trans ht.tape, h2.output.trans ht.output⟩, h2.size.trans ht.size, fun y hy => (h2.old y hy).trans (ht.old y hy)⟩, h3, by simpa using h4, ?_⟩
    · simp only [storeCells, Sem.run_bind, add_off]
      rw [run_store _ _ _ _ _ (hv v (by simp))]
      simp only [hcell, hfz, Bool.false_eq_true, if_false, Result.andThen_ok]
      exact h1
    · rw [h5]
      simp only [Array.toList_setIfInBounds]
      have hlen : o + i < c.toList.length := by simp; omega
      rw [show o + (i + 1) = (o + i) + 1 from by omega, List.take_add_one, List.take_set_of_le (Nat.le_refl _), List.getElem?_set_self hlen, List.drop_set_of_lt (by omega)]
      simp only [Option.toList_some, List.append_assoc, List.cons_append, List.nil_append, List.length_cons]
      rw [show o + i + 1 + r.length = o + i + (r.length + 1) from by omega]
end Go.Ev
