/- States: an abstract heap and a world; what a step may do to both (own work). -/
import Derived.Test.YtbfepjofmkdafaaGreatEvS2
namespace Go.Ev

def grpOf : AO → Option Nat
  | .cells _ _ g => some g
  | _ => none
/-- some cells of a row -/
def CR (M : Mu) (cs c : List Value) (sh : Nat) : Prop := ∀ k v, cs[k]? = some v → ∃ u, c[sh + k]? = some u ∧ VR M v u
theorem CR.mono {M M' : Mu} (hM : M.le M') {cs c : List Value} {sh : Nat} (h : CR M cs c sh) : CR M' cs c sh :=
  fun k v hk => let ⟨u, hu, hv⟩ := h k v hk; ⟨u, hu, hv.mono hM⟩
def ER1 (M : Mu) (e e' : MapEntry) : Prop := VR M e.key e'.key ∧ VR M e.val e'.val ∧ e.born = e'.born
inductive ERs (M : Mu) : List MapEntry → List MapEntry → Prop
  | nil : ERs M [] []
  | cons (e e' : MapEntry) (r r' : List MapEntry) (h : ER1 M e e') (hr : ERs M r r') : ERs M (e :: r) (e' :: r')
theorem ERs.mono {M M' : Mu} (hM : M.le M') {l l' : List MapEntry} (h : ERs M l l') : ERs M' l l' := by
  induction h with
  | nil => exact .nil
  | cons e e' r r' h _ ih => exact .cons _ _ _ _ ⟨h.1.mono hM, h.2.1.mono hM, h.2.2⟩ ih
/-- variables of a frame -/
def TR (M : Mu) (T : Tr Value) (t : Array Value) : Prop := ∀ k v, T.get k = some v → ∃ u, t[k]? = some u ∧ VR M v u
theorem TR.mono {M M' : Mu} (hM : M.le M') {T : Tr Value} {t : Array Value} (h : TR M T t) : TR M' T t :=
  fun k v hk => let ⟨u, hu, hv⟩ := h k v hk; ⟨u, hu, hv.mono hM⟩
/-- how a loop over a function stands -/
def pend : EX → LoopState × Option Code
  | .normal => (.ready, none)
  | .exit id => (.done, some (.exit id))
  | .ret => (.done, some .ret)
def OR (P : Cx) (M : Mu) (i : Img) (w : World) : AO → Prop
  | .cells cs e _ => ∃ c lo hi, w.heap[i.blk]? = some (.cells c e (lo, hi)) ∧ c.size = i.tot ∧ tsize P e = some i.sz ∧ (∀ k, k < c.size → lo ≤ k → ¬ k < hi) ∧ CR M cs c.toList i.sh
  | .map es clock => ∃ es', w.heap[i.blk]? = some (.map es' clock) ∧ ERs M es es'.toList ∧ ∀ x ∈ es, closedV 10 x.key = true
  | .mapIter m since seen stepped => ∃ m' seen', w.heap[i.blk]? = some (.mapIter m' since seen' stepped) ∧ seen = seen'.toList.reverse ∧
      (match m with | none => m' = none | some r => ∃ j, M r = some j ∧ m' = some j.blk) ∧ i.sh = 0
  | .strIter s pos => w.heap[i.blk]? = some (.stringIter s pos) ∧ i.sh = 0
  | .loop T params assign body m p => ∃ r, w.heap[i.blk]? = some (.loop r) ∧ r.params.toList = params ∧ r.assign = assign ∧ r.body = body ∧ TR M T r.tmps ∧ (r.state, r.pending) = pend p ∧ (∀ k v, T.get k = some v → m.testBit k = true) ∧ ∃ n, n ≤ r.tmps.size ∧ bndT n params = true ∧ bndC n assign = true ∧ bndC n body = true ∧ noRF assign = true ∧ noRF body = true
theorem OR.mono {P : Cx} {M M' : Mu} (hM : M.le M') {i : Img} {w : World} {o : AO} (h : OR P M i w o) : OR P M' i w o := by
  cases o with
  | cells cs e g => obtain ⟨c, lo, hi, h1, h2, h3, h4, h5⟩ := h; exact ⟨c, lo, hi, h1, h2, h3, h4, h5.mono hM⟩
  | map es clock => obtain ⟨es', h1, h2, h3⟩ := h; exact ⟨es', h1, h2.mono hM, h3⟩
  | mapIter m since seen stepped =>
    obtain ⟨m', seen', h1, h2, h3, h4⟩ := h
    refine ⟨m', seen', h1, h2, ?_, h4⟩
    cases m with
    | none => exact h3
    | some r => obtain ⟨j, hj, e⟩ := h3; exact ⟨j, hM _ _ hj, e⟩
  | strIter s pos => exact h
  | loop T params assign body m p => obtain ⟨r, h1, h2, h3, h4, h5, h6⟩ := h; exact ⟨r, h1, h2, h3, h4, h5.mono hM, h6⟩
theorem OR.world {P : Cx} {M : Mu} {i : Img} {w w' : World} {o : AO} (h : OR P M i w o) (hw : w'.heap[i.blk]? = w.heap[i.blk]?) : OR P M i w' o := by
  cases o <;> simpa only [OR, hw] using h
theorem OR.lt {P : Cx} {M : Mu} {i : Img} {w : World} {o : AO} (h : OR P M i w o) : i.blk < w.heap.size := by
  have : ∃ x, w.heap[i.blk]? = some x := by
    cases o with
    | cells => obtain ⟨c, lo, hi, h1, _⟩ := h; exact ⟨_, h1⟩
    | map => obtain ⟨c, h1, _⟩ := h; exact ⟨_, h1⟩
    | mapIter => obtain ⟨c, _, h1, _⟩ := h; exact ⟨_, h1⟩
    | strIter => exact ⟨_, h.1⟩
    | loop => obtain ⟨c, h1, _⟩ := h; exact ⟨_, h1⟩
  obtain ⟨x, hx⟩ := this
  exact (Array.getElem?_eq_some_iff.1 hx).1

/-- what the abstract heap keeps of itself -/
def AI (h : AH) : Prop := ∀ b cs e g, h.tr.get b = some (.cells cs e g) → g ≤ b ∧ b < h.next
structure SR (P : Cx) (M : Mu) (h : AH) (w : World) : Prop where
  ai : AI h
  obj : ∀ b o, h.get b = some o → ∃ i, M b = some i ∧ OR P M i w o
  sep : ∀ b b' o o' i i', h.get b = some o → h.get b' = some o' → M b = some i → M b' = some i' → i.blk = i'.blk → b = b' ∨ ∃ g, grpOf o = some g ∧ grpOf o' = some g
  fresh : ∀ b, h.next ≤ b → M b = none
  lon : h.lo ≤ h.next
theorem SR.lt {P : Cx} {M : Mu} {h : AH} {w : World} (s : SR P M h w) {b : Nat} {o : AO} (hb : h.get b = some o) : b < h.next := by
  obtain ⟨i, hi, _⟩ := s.obj b o hb
  rcases Nat.lt_or_ge b h.next with hl | hl
  · exact hl
  · rw [s.fresh b hl] at hi; cases hi
/-- a block of the world that stands for something -/
def Held (M : Mu) (h : AH) (x : Nat) : Prop := ∃ b o i, h.get b = some o ∧ M b = some i ∧ i.blk = x
structure Nxt (P : Cx) (M : Mu) (h : AH) (w : World) (M' : Mu) (h' : AH) (w' : World) : Prop where
  sr : SR P M' h' w'
  mu : M.le M'
  next : h.next ≤ h'.next
  old : ∀ b, b < h.next → M' b = M b
  img : ∀ x, Held M' h' x → Held M h x ∨ w.heap.size ≤ x
  kept : ∀ x, x < w.heap.size → ¬ Held M h x → w'.heap[x]? = w.heap[x]?
  size : w.heap.size ≤ w'.heap.size
  os : w'.os = w.os
  tape : w'.tape = w.tape
  output : w'.output = w.output
  lo : h'.lo ≤ h.lo
  fp : ∀ b, b < h'.lo → b < h.next → h'.get b = h.get b
  grp : ∀ b cs e g, h'.tr.get b = some (.cells cs e g) → h.next ≤ g ∨ ∃ b0 cs0 e0, h.tr.get b0 = some (.cells cs0 e0 g)
  gl : ∀ b cs e g, h'.tr.get b = some (.cells cs e g) → h.next ≤ b → g < h.next → h'.lo ≤ g
  gb : ∀ b cs e g, h'.tr.get b = some (.cells cs e g) → b < h.next → ∃ cs0 e0, h.tr.get b = some (.cells cs0 e0 g)
theorem Nxt.refl {P : Cx} {M : Mu} {h : AH} {w : World} (s : SR P M h w) : Nxt P M h w M h w :=
  ⟨s, Mu.le_refl M, Nat.le_refl _, fun _ _ => rfl, fun _ hx => .inl hx, fun _ _ _ => rfl, Nat.le_refl _, rfl, rfl, rfl, Nat.le_refl _, fun _ _ _ => rfl, fun b cs e _ hb => .inr ⟨b, cs, e, hb⟩, fun b cs e g hb hn _ => absurd (s.ai b cs e g hb).2 (by omega), fun b cs e _ hb _ => ⟨cs, e, hb⟩⟩
theorem Nxt.trans {P : Cx} {M1 M2 M3 : Mu} {h1 h2 h3 : AH} {w1 w2 w3 : World} (a : Nxt P M1 h1 w1 M2 h2 w2) (b : Nxt P M2 h2 w2 M3 h3 w3) : Nxt P M1 h1 w1 M3 h3 w3 where
  sr := b.sr
  mu := Mu.le_trans a.mu b.mu
  next := Nat.le_trans a.next b.next
  old := fun x hx => by rw [b.old x (Nat.lt_of_lt_of_le hx a.next), a.old x hx]
  img := fun x hx => by
    rcases b.img x hx with h | h
    · exact a.img x h
    · exact .inr (Nat.le_trans a.size h)
  kept := fun x hx hn => by
    rw [b.kept x (Nat.lt_of_lt_of_le hx a.size) (fun hh => by
      rcases a.img x hh with h | h
      · exact hn h
      · omega), a.kept x hx hn]
  size := Nat.le_trans a.size b.size
  os := b.os.trans a.os
  tape := b.tape.trans a.tape
  output := b.output.trans a.output
  lo := Nat.le_trans b.lo a.lo
  fp := fun x hx hn => by rw [b.fp x hx (Nat.lt_of_lt_of_le hn a.next), a.fp x (Nat.lt_of_lt_of_le hx b.lo) hn]
  grp := fun x cs e g hx => by
    rcases b.grp x cs e g hx with h | ⟨b0, cs0, e0, h⟩
    · exact .inl (Nat.le_trans a.next h)
    · exact a.grp b0 cs0 e0 g h
  gl := fun x cs e g hx hn hg => by
    rcases Nat.lt_or_ge x h2.next with q | q
    · obtain ⟨cs0, e0, h0⟩ := b.gb x cs e g hx q
      exact Nat.le_trans b.lo (a.gl x cs0 e0 g h0 hn hg)
    · exact b.gl x cs e g hx q (Nat.lt_of_lt_of_le hg a.next)
  gb := fun x cs e g hx hn => by
    obtain ⟨cs0, e0, h0⟩ := b.gb x cs e g hx (Nat.lt_of_lt_of_le hn a.next)
    exact a.gb x cs0 e0 g h0 hn
theorem Nxt.below {P : Cx} {M M' : Mu} {h h' : AH} {w w' : World} (a : Nxt P M h w M' h' w') (hn : ∀ x, ¬ Held M h x) : RowKit.Below w.heap.size w w' :=
  ⟨a.os, a.tape, a.output, a.size, fun x hx => a.kept x hx (hn x)⟩

-- the abstract heap's own moves
theorem memN_iff (x : Nat) (l : List Nat) : memN x l = true ↔ x ∈ l := by
  induction l with
  | nil => simp [memN]
  | cons y r ih =>
    rw [memN, bc_eq]
    by_cases h : Nat.beq x y = true
    · simp [beqN h]
    · rw [if_neg h, ih]
      have : x ≠ y := fun e => h (by subst e; exact Nat.beq_refl x)
      simp [this]
noncomputable def okGrp (h : AH) (b g : Nat) : Bool := match h.grps.get g with | some l => memN b l | none => false
def live (ok : Nat → Bool) : Option AO → Option AO
  | some (.cells cs e g) => if ok g = true then some (.cells cs e g) else none
  | o => o
theorem get_def (h : AH) (b : Nat) : h.get b = live (okGrp h b) (h.tr.get b) := by
  unfold AH.get okGrp live
  cases h.tr.get b with
  | none => rfl
  | some o => cases o with
    | cells cs e g =>
      cases hg : h.grps.get g with
      | none => simp [hg]
      | some l => simp [hg, bc_eq]
    | _ => rfl
theorem live_some {ok : Nat → Bool} {x : Option AO} {o : AO} (h : live ok x = some o) : x = some o ∧ ∀ g, grpOf o = some g → ok g = true := by
  cases x with
  | none => cases h
  | some y => cases y with
    | cells cs e g =>
      by_cases hk : ok g = true
      · simp only [live, hk, if_true] at h; cases h
        exact ⟨rfl, fun g' e => by cases e; exact hk⟩
      · simp [live, hk] at h
    | _ => cases h; exact ⟨rfl, fun g' e => by cases e⟩
theorem live_noGrp {o : AO} (ho : grpOf o = none) (ok : Nat → Bool) : live ok (some o) = some o := by cases o <;> first | rfl | cases ho
theorem live_congr {ok ok' : Nat → Bool} {x : Option AO} (h : ∀ cs e g, x = some (.cells cs e g) → ok g = ok' g) : live ok x = live ok' x := by
  cases x with
  | none => rfl
  | some y => cases y with
    | cells cs e g => simp only [live, h cs e g rfl]
    | _ => rfl
theorem get_tr {h : AH} {b : Nat} {o : AO} (hb : h.get b = some o) : h.tr.get b = some o ∧ ∀ g, grpOf o = some g → okGrp h b g = true :=
  live_some (by rw [← get_def]; exact hb)
theorem get_newCells {h : AH} (ha : AI h) (cs : List Value) (e : TypeId) (b : Nat) :
    (h.newCells cs e).get b = if b = h.next then some (.cells cs e h.next) else h.get b := by
  have htr : (h.newCells cs e).tr.get b = if b = h.next then some (.cells cs e h.next) else h.tr.get b := by simp only [AH.newCells, Tr.get_put]
  have hok : ∀ g, okGrp (h.newCells cs e) b g = if g = h.next then memN b [h.next] else okGrp h b g := by
    intro g; unfold okGrp; simp only [AH.newCells, Tr.get_put]
    by_cases hg : g = h.next <;> simp [hg]
  rw [get_def, get_def, htr]
  by_cases hb : b = h.next
  · rw [if_pos hb, if_pos hb]; simp only [live, hok, if_true, (memN_iff b [h.next]).2 (by simp [hb])]
  · rw [if_neg hb, if_neg hb]
    refine live_congr fun cs' e' g hx => ?_
    have := ha b _ _ _ hx
    rw [hok, if_neg (by omega)]
theorem get_newObj {h : AH} (o : AO) (ho : grpOf o = none) (b : Nat) : (h.newObj o).get b = if b = h.next then some o else h.get b := by
  have htr : (h.newObj o).tr.get b = if b = h.next then some o else h.tr.get b := by simp only [AH.newObj, Tr.get_put]
  rw [get_def, get_def, htr]
  by_cases hb : b = h.next
  · rw [if_pos hb, if_pos hb, live_noGrp ho]
  · rw [if_neg hb, if_neg hb]; rfl
theorem get_putO {h : AH} (x : Nat) (o : AO) (ho : grpOf o = none) (b : Nat) : (h.put x o).get b = if b = x then some o else h.get b := by
  have htr : (h.put x o).tr.get b = if b = x then some o else h.tr.get b := by simp only [AH.put, Tr.get_put]
  rw [get_def, get_def, htr]
  by_cases hb : b = x
  · rw [if_pos hb, if_pos hb, live_noGrp ho]
  · rw [if_neg hb, if_neg hb]; rfl
theorem get_del {h : AH} (x : Nat) (b : Nat) : (h.del x).get b = if b = x then none else h.get b := by
  have htr : (h.del x).tr.get b = if b = x then none else h.tr.get b := by simp only [AH.del, Tr.get_put]
  rw [get_def, get_def, htr]
  by_cases hb : b = x
  · rw [if_pos hb, if_pos hb]; rfl
  · rw [if_neg hb, if_neg hb]; rfl
def noGrp (g : Nat) : Option AO → Option AO
  | some (.cells cs e g') => if g' = g then none else some (.cells cs e g')
  | o => o
/-- where one group's list has turned -/
theorem live_turned {ok ok' : Nat → Bool} {g : Nat} {x : Option AO} (h : ∀ g', g' ≠ g → ok' g' = ok g') (hg : ok' g = false) : live ok' x = noGrp g (live ok x) := by
  cases x with
  | none => rfl
  | some y => cases y with
    | cells cs e g' =>
      by_cases hgg : g' = g
      · subst hgg; simp only [live, hg]
        by_cases hk : ok g' = true <;> simp [hk, noGrp]
      · simp only [live, h g' hgg]
        by_cases hk : ok g' = true <;> simp [hk, noGrp, hgg]
    | _ => rfl
theorem get_putCells {h : AH} {x : Nat} {cs0 : List Value} {e0 : TypeId} {g : Nat} (hx : h.get x = some (.cells cs0 e0 g)) (cs : List Value) (e : TypeId) (b : Nat) :
    (h.putCells x cs e g).get b = if b = x then some (.cells cs e g) else noGrp g (h.get b) := by
  obtain ⟨_, hg⟩ := get_tr hx
  have hok := hg _ rfl
  have hl : ∀ y, okGrp (h.putCells x cs e g) y g = true ↔ y = x := by
    intro y
    unfold okGrp at hok ⊢
    simp only [AH.putCells]
    cases hgl : h.grps.get g with
    | none => rw [hgl] at hok; cases hok
    | some l =>
      rw [hgl] at hok
      simp only at hok
      rw [memN_iff] at hok
      match l with
      | [] => cases hok
      | [z] => simp only [hgl, memN_iff]; simp at hok; subst hok; simp
      | z :: z' :: r => simp only [Tr.get_put, if_true, memN_iff]; simp
  have ho : ∀ y g', g' ≠ g → okGrp (h.putCells x cs e g) y g' = okGrp h y g' := by
    intro y g' hne
    have : (h.putCells x cs e g).grps.get g' = h.grps.get g' := by
      simp only [AH.putCells]
      split
      · rfl
      · rw [Tr.get_put, if_neg hne]
    unfold okGrp; rw [this]
  have htr : (h.putCells x cs e g).tr.get b = if b = x then some (.cells cs e g) else h.tr.get b := by simp only [AH.putCells, Tr.get_put]
  rw [get_def, get_def, htr]
  by_cases hb : b = x
  · rw [if_pos hb, if_pos hb]; simp only [live, (hl b).2 hb, if_true]
  · rw [if_neg hb, if_neg hb]
    refine live_turned (ho b) ?_
    cases hh : okGrp (h.putCells x cs e g) b g with
    | false => rfl
    | true => exact absurd ((hl b).1 hh) hb
theorem get_newBeside {h : AH} {x : Nat} {cs0 : List Value} {e0 : TypeId} {g : Nat} (hx : h.get x = some (.cells cs0 e0 g)) (cs : List Value) (e : TypeId) (b : Nat) :
    (h.newBeside g x cs e).get b = if b = h.next then some (.cells cs e g) else if b = x then h.get b else noGrp g (h.get b) := by
  obtain ⟨hxt, _⟩ := get_tr hx
  have hl : ∀ y, okGrp (h.newBeside g x cs e) y g = true ↔ y = h.next ∨ y = x := by
    intro y
    unfold okGrp
    simp only [AH.newBeside, Tr.get_put, if_true, memN_iff]
    simp
  have ho : ∀ y g', g' ≠ g → okGrp (h.newBeside g x cs e) y g' = okGrp h y g' := by
    intro y g' hne
    unfold okGrp
    simp only [AH.newBeside, Tr.get_put, if_neg hne]
  have htr : (h.newBeside g x cs e).tr.get b = if b = h.next then some (.cells cs e g) else h.tr.get b := by simp only [AH.newBeside, Tr.get_put]
  rw [get_def, htr]
  by_cases hb : b = h.next
  · rw [if_pos hb, if_pos hb]; simp only [live, (hl b).2 (.inl hb), if_true]
  · rw [if_neg hb, if_neg hb]
    by_cases hbx : b = x
    · subst hbx
      rw [if_pos rfl, hxt, hx]
      simp only [live, (hl b).2 (.inr rfl), if_true]
    · rw [if_neg hbx, get_def]
      refine live_turned (ho b) ?_
      cases hh : okGrp (h.newBeside g x cs e) b g with
      | false => rfl
      | true => exact absurd ((hl b).1 hh) (by simp [hb, hbx])
theorem noGrp_some {g : Nat} {x : Option AO} {o : AO} (h : noGrp g x = some o) : x = some o ∧ grpOf o ≠ some g := by
  cases x with
  | none => cases h
  | some y => cases y with
    | cells cs e g' =>
      unfold noGrp at h
      by_cases hg : g' = g
      · simp [hg] at h
      · simp [hg] at h; subst h; exact ⟨rfl, by simp [grpOf, hg]⟩
    | _ => cases h; exact ⟨rfl, by simp [grpOf]⟩
end Go.Ev
