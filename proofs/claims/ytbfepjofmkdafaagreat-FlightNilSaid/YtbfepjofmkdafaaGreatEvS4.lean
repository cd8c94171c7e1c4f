/- The moves of a state (own work). -/
import Derived.Test.YtbfepjofmkdafaaGreatEvS3
namespace Go.Ev
variable {P : Cx} {M : Mu} {h h' : AH} {w w' : World}

def Mu.set (M : Mu) (b : Nat) (i : Img) : Mu := fun x => if x = b then some i else M x
theorem Mu.set_same (M : Mu) (b : Nat) (i : Img) : M.set b i b = some i := by simp [Mu.set]
theorem Mu.set_other (M : Mu) {b x : Nat} (i : Img) (hx : x ≠ b) : M.set b i x = M x := by simp [Mu.set, hx]
theorem Mu.le_set {M : Mu} {b : Nat} (i : Img) (hb : M b = none) : M.le (M.set b i) := fun x j hx => by
  rw [Mu.set_other M i (by intro e; rw [e, hb] at hx; cases hx)]; exact hx

structure Same (w w' : World) : Prop where
  os : w'.os = w.os
  tape : w'.tape = w.tape
  output : w'.output = w.output
/-- only block x has turned -/
structure Turn (w w' : World) (x : Nat) : Prop extends Same w w' where
  size : w'.heap.size = w.heap.size
  old : ∀ y, y ≠ x → w'.heap[y]? = w.heap[y]?
/-- one block more -/
structure Grew (w w' : World) (o : Obj) : Prop extends Same w w' where
  heap : w'.heap = w.heap.push o
theorem Grew.size {o : Obj} (g : Grew w w' o) : w'.heap.size = w.heap.size + 1 := by rw [g.heap]; simp
theorem Grew.old {o : Obj} (g : Grew w w' o) (x : Nat) (hx : x < w.heap.size) : w'.heap[x]? = w.heap[x]? := by
  rw [g.heap, Array.getElem?_push, if_neg (by omega)]
theorem Grew.new {o : Obj} (g : Grew w w' o) : w'.heap[w.heap.size]? = some o := by rw [g.heap]; simp

/-- a state in a world with the same heap -/
theorem SR.same_heap (s : SR P M h w) (hh : w'.heap = w.heap) : SR P M h w' :=
  ⟨s.ai, fun b o hb => let ⟨i, hi, ho⟩ := s.obj b o hb; ⟨i, hi, ho.world (by rw [hh])⟩, s.sep, s.fresh, s.lon⟩
theorem nxt_same_heap (s : SR P M h w) (hh : w'.heap = w.heap) (e : Same w w') : Nxt P M h w M h w' :=
  { Nxt.refl s with sr := s.same_heap hh, kept := fun _ _ _ => by rw [hh], size := by rw [hh]; exact Nat.le_refl _, os := e.os, tape := e.tape, output := e.output }

/-- a new block at number 'id', that stands for a new block of the world -/
theorem nxt_new {id : Nat} {o : AO} {i : Img} {ob : Obj} (s : SR P M h w) (hid : M id = none) (hge : h.next ≤ id) (hlo : h.lo ≤ id) (hn : h.next ≤ h'.next) (hidn : id < h'.next)
    (hget : ∀ b, h'.get b = if b = id then some o else h.get b) (hai : AI h') (hl : h'.lo = h.lo)
    (hg : ∀ b cs e g, h'.tr.get b = some (.cells cs e g) → (b = id ∧ h.next ≤ g) ∨ h.tr.get b = some (.cells cs e g))
    (gw : Grew w w' ob) (hi : i.blk = w.heap.size) (ho : OR P (M.set id i) i w' o) : Nxt P M h w (M.set id i) h' w' := by
  have hle : M.le (M.set id i) := Mu.le_set i hid
  have hne : ∀ b o', h.get b = some o' → b ≠ id := fun b o' hb e => by
    obtain ⟨j, hj, _⟩ := s.obj b o' hb; rw [e, hid] at hj; cases hj
  have hold : ∀ b o', h'.get b = some o' → b ≠ id → h.get b = some o' := fun b o' hb e => by rw [hget, if_neg e] at hb; exact hb
  refine ⟨⟨hai, ?_, ?_, ?_, by rw [hl]; exact Nat.le_trans s.lon hn⟩, hle, hn, fun b hb => Mu.set_other M i (by omega), ?_, ?_, by rw [gw.size]; omega, gw.os, gw.tape, gw.output, by rw [hl]; exact Nat.le_refl _, ?_, ?_, ?_, ?_⟩
  · intro b o' hb
    by_cases e : b = id
    · subst e
      rw [hget, if_pos rfl] at hb; cases hb
      exact ⟨i, Mu.set_same _ _ _, ho⟩
    · obtain ⟨j, hj, hoj⟩ := s.obj b o' (hold b o' hb e)
      exact ⟨j, hle _ _ hj, (hoj.mono hle).world (gw.old _ hoj.lt)⟩
  · intro b b' o1 o2 i1 i2 h1 h2 m1 m2 hb
    have big : ∀ b o1 i1, h'.get b = some o1 → (M.set id i) b = some i1 → b ≠ id → i1.blk < w.heap.size ∧ h.get b = some o1 ∧ M b = some i1 := fun b o1 i1 h1 m1 e => by
      have hb := hold b o1 h1 e
      obtain ⟨j, hj, hoj⟩ := s.obj b o1 hb
      rw [Mu.set_other M i e] at m1
      rw [hj] at m1; cases m1
      exact ⟨hoj.lt, hb, hj⟩
    by_cases e1 : b = id
    · by_cases e2 : b' = id
      · exact .inl (e1.trans e2.symm)
      · obtain ⟨hlt, _, _⟩ := big b' o2 i2 h2 m2 e2
        rw [e1, Mu.set_same] at m1; cases m1; omega
    · obtain ⟨hlt, hb1, hm1⟩ := big b o1 i1 h1 m1 e1
      by_cases e2 : b' = id
      · rw [e2, Mu.set_same] at m2; cases m2; omega
      · obtain ⟨_, hb2, hm2⟩ := big b' o2 i2 h2 m2 e2
        exact s.sep b b' o1 o2 i1 i2 hb1 hb2 hm1 hm2 hb
  · intro b hb
    rw [Mu.set_other M i (by omega)]
    exact s.fresh b (by omega)
  · rintro x ⟨b, o', j, hb, hj, hx⟩
    by_cases e : b = id
    · subst e; rw [Mu.set_same] at hj; cases hj; exact .inr (by omega)
    · rw [Mu.set_other M i e] at hj
      exact .inl ⟨b, o', j, hold b o' hb e, hj, hx⟩
  · exact fun x hx _ => gw.old x hx
  · intro b hb hbn
    rw [hget, if_neg (by rw [hl] at hb; omega)]
  · intro b cs e g hb
    rcases hg b cs e g hb with ⟨_, q⟩ | q
    · exact .inl q
    · exact .inr ⟨b, cs, e, q⟩
  · intro b cs e g hb hn hgn
    rcases hg b cs e g hb with ⟨_, q⟩ | q
    · omega
    · have := s.ai b cs e g q; omega
  · intro b cs e g hb hn
    rcases hg b cs e g hb with ⟨q, _⟩ | q
    · omega
    · exact ⟨cs, e, q⟩

theorem ai_newCells (ha : AI h) (cs : List Value) (e : TypeId) : AI (h.newCells cs e) := by
  intro b cs' e' g hb
  simp only [AH.newCells, Tr.get_put] at hb ⊢
  by_cases hbn : b = h.next
  · rw [if_pos hbn] at hb; cases hb; omega
  · rw [if_neg hbn] at hb; have := ha b _ _ _ hb; omega
theorem ai_newObj (ha : AI h) (o : AO) (ho : grpOf o = none) : AI (h.newObj o) := by
  intro b cs' e' g hb
  simp only [AH.newObj, Tr.get_put] at hb ⊢
  by_cases hbn : b = h.next
  · rw [if_pos hbn] at hb; cases hb; cases ho
  · rw [if_neg hbn] at hb; have := ha b _ _ _ hb; omega

/-- a row of cells is made -/
theorem nxt_row {cs : List Value} {e : TypeId} {c : Array Value} {lo hi sz : Nat} (s : SR P M h w) (gw : Grew w w' (.cells c e (lo, hi)))
    (hsz : tsize P e = some sz) (hf : ∀ k, k < c.size → lo ≤ k → ¬ k < hi) (hc : CR M cs c.toList 0) :
    Nxt P M h w (M.set h.next ⟨w.heap.size, 0, sz, c.size, undef⟩) (h.newCells cs e) w' := by
  have hid := s.fresh h.next (Nat.le_refl _)
  refine nxt_new (id := h.next) (o := .cells cs e h.next) s hid (Nat.le_refl _) s.lon (Nat.le_succ _) (Nat.lt_succ_self _) (get_newCells s.ai cs e) (ai_newCells s.ai cs e) rfl ?_ gw rfl ?_
  · intro b cs' e' g hb
    simp only [AH.newCells, Tr.get_put] at hb
    by_cases hbn : b = h.next
    · rw [if_pos hbn] at hb; cases hb; exact .inl ⟨hbn, Nat.le_refl _⟩
    · rw [if_neg hbn] at hb; exact .inr hb
  · exact ⟨c, lo, hi, gw.new, rfl, hsz, hf, hc.mono (Mu.le_set _ hid)⟩
/-- another object is made -/
theorem nxt_obj {o : AO} {ob : Obj} (sz tot : Nat) (s : SR P M h w) (hog : grpOf o = none) (gw : Grew w w' ob)
    (ho : OR P (M.set h.next ⟨w.heap.size, 0, sz, tot, undef⟩) ⟨w.heap.size, 0, sz, tot, undef⟩ w' o) :
    Nxt P M h w (M.set h.next ⟨w.heap.size, 0, sz, tot, undef⟩) (h.newObj o) w' := by
  have hid := s.fresh h.next (Nat.le_refl _)
  refine nxt_new (id := h.next) (o := o) s hid (Nat.le_refl _) s.lon (Nat.le_succ _) (Nat.lt_succ_self _) (get_newObj o hog) (ai_newObj s.ai o hog) rfl ?_ gw rfl ho
  intro b cs' e' g hb
  simp only [AH.newObj, Tr.get_put] at hb
  by_cases hbn : b = h.next
  · rw [if_pos hbn] at hb; cases hb; cases hog
  · rw [if_neg hbn] at hb; exact .inr hb

/-- one block's object is another; blocks that stood for the same block of the world may go -/
theorem nxt_turn {x : Nat} {o : AO} {i : Img} (s : SR P M h w) (hm : M x = some i) (hx : ∃ o0, h.get x = some o0) (hn : h'.next = h.next)
    (hget : ∀ b, (h'.get b = if b = x then some o else noGrp ((grpOf o).getD 0) (h.get b)) ∨ (b ≠ x ∧ grpOf o = none ∧ h'.get b = h.get b))
    (hgo : ∀ o0, h.get x = some o0 → grpOf o0 = grpOf o) (hai : AI h') (hlo : h'.lo ≤ h.lo) (hfp : ∀ b, b < h'.lo → b < h.next → h'.get b = h.get b)
    (hg : ∀ b cs e g, h'.tr.get b = some (.cells cs e g) → ∃ cs0 e0, h.tr.get b = some (.cells cs0 e0 g))
    (tw : Turn w w' i.blk) (ho : OR P M i w' o) : Nxt P M h w M h' w' := by
  obtain ⟨o0, hx0⟩ := hx
  -- what is left was there
  have hold : ∀ b o', h'.get b = some o' → b ≠ x → h.get b = some o' ∧ (∀ g, grpOf o = some g → grpOf o' ≠ some g) := by
    intro b o' hb e
    rcases hget b with hh | ⟨_, hng, hh⟩
    · rw [if_neg e] at hh
      rw [hh] at hb
      obtain ⟨h1, h2⟩ := noGrp_some hb
      exact ⟨h1, fun g hg => by rw [hg] at h2; simpa using h2⟩
    · rw [hh] at hb; exact ⟨hb, fun g hg => by rw [hng] at hg; cases hg⟩
  have hxo : h'.get x = some o := by
    rcases hget x with hh | ⟨h0, _⟩
    · rw [if_pos rfl] at hh; exact hh
    · exact absurd rfl h0
  -- it lies elsewhere
  have hblk : ∀ b o' j, h'.get b = some o' → b ≠ x → M b = some j → j.blk ≠ i.blk := by
    intro b o' j hb e hj hbl
    obtain ⟨h1, h2⟩ := hold b o' hb e
    rcases s.sep b x o' o0 j i h1 hx0 hj hm hbl with h3 | ⟨g, g1, g2⟩
    · exact e h3
    · exact h2 g (by rw [← hgo o0 hx0]; exact g2) g1
  have hHeld : ∀ y, Held M h' y → Held M h y := by
    rintro y ⟨b, o', j, hb, hj, hy⟩
    by_cases e : b = x
    · subst e; exact ⟨b, o0, j, hx0, hj, hy⟩
    · exact ⟨b, o', j, (hold b o' hb e).1, hj, hy⟩
  refine ⟨⟨hai, ?_, ?_, by rw [hn]; exact s.fresh, by rw [hn]; exact Nat.le_trans hlo s.lon⟩, Mu.le_refl M, by rw [hn]; exact Nat.le_refl _, fun _ _ => rfl, fun y hy => .inl (hHeld y hy), ?_, by rw [tw.size]; exact Nat.le_refl _, tw.os, tw.tape, tw.output, hlo, hfp, fun b cs e g hb => .inr (let ⟨c, e', q⟩ := hg b cs e g hb; ⟨b, c, e', q⟩), fun b cs e g hb hn' _ => absurd (hai b cs e g hb).2 (by omega), fun b cs e g hb _ => hg b cs e g hb⟩
  · intro b o' hb
    by_cases e : b = x
    · subst e; rw [hxo] at hb; cases hb; exact ⟨i, hm, ho⟩
    · obtain ⟨h1, _⟩ := hold b o' hb e
      obtain ⟨j, hj, hoj⟩ := s.obj b o' h1
      exact ⟨j, hj, hoj.world (tw.old _ (hblk b o' j hb e hj))⟩
  · intro b b' o1 o2 i1 i2 h1 h2 m1 m2 hb
    by_cases e1 : b = x
    · subst e1
      by_cases e2 : b' = b
      · exact .inl e2.symm
      · rw [hm] at m1; cases m1
        exact absurd hb.symm (hblk b' o2 i2 h2 e2 m2)
    · by_cases e2 : b' = x
      · subst e2; rw [hm] at m2; cases m2
        exact absurd hb (hblk b o1 i1 h1 e1 m1)
      · exact s.sep b b' o1 o2 i1 i2 (hold b o1 h1 e1).1 (hold b' o2 h2 e2).1 m1 m2 hb
  · intro y _ hy
    exact tw.old y (fun e => hy ⟨x, o0, i, hx0, hm, e.symm⟩)

theorem minN_eq (a b : Nat) : minN a b = min a b := by
  unfold minN; rw [bc_eq]
  by_cases hh : Nat.ble a b = true
  · rw [if_pos hh]; have := bleN hh; omega
  · rw [if_neg hh]
    have : ¬ a ≤ b := fun hle => hh (Nat.ble_eq_true_of_le hle)
    omega

/-- an object that is no row of cells is another -/
theorem nxt_putO {x : Nat} {o o0 : AO} {i : Img} (s : SR P M h w) (hm : M x = some i) (hx : h.get x = some o0) (ho0 : grpOf o0 = none) (hog : grpOf o = none)
    (tw : Turn w w' i.blk) (ho : OR P M i w' o) : Nxt P M h w M (h.put x o) w' := by
  refine nxt_turn s hm ⟨o0, hx⟩ rfl (fun b => ?_) (fun o1 h1 => by rw [hx] at h1; cases h1; rw [ho0, hog]) ?_ ?_ ?_ ?_ tw ho
  · rw [get_putO x o hog]
    by_cases e : b = x
    · simp [e]
    · right; exact ⟨e, hog, by rw [if_neg e]⟩
  · intro b cs e g hb
    simp only [AH.put, Tr.get_put] at hb ⊢
    by_cases e1 : b = x
    · rw [if_pos e1] at hb; cases hb; cases hog
    · rw [if_neg e1] at hb; exact s.ai b _ _ _ hb
  · simp only [AH.put, minN_eq]; omega
  · intro b hb _
    simp only [AH.put, minN_eq] at hb
    rw [get_putO x o hog, if_neg (by omega)]
  · intro b cs e g hb
    simp only [AH.put, Tr.get_put] at hb
    by_cases e1 : b = x
    · rw [if_pos e1] at hb; cases hb; cases hog
    · rw [if_neg e1] at hb; exact ⟨_, _, hb⟩
/-- cells of a row are others -/
theorem nxt_putCells {x : Nat} {cs cs0 : List Value} {e : TypeId} {g : Nat} {i : Img} (s : SR P M h w) (hm : M x = some i) (hx : h.get x = some (.cells cs0 e g))
    (tw : Turn w w' i.blk) (ho : OR P M i w' (.cells cs e g)) : Nxt P M h w M (h.putCells x cs e g) w' := by
  have hxt := (get_tr hx).1
  refine nxt_turn s hm ⟨_, hx⟩ rfl (fun b => ?_) (fun o1 h1 => by rw [hx] at h1; cases h1; rfl) ?_ ?_ ?_ ?_ tw ho
  · left
    rw [get_putCells hx]
    rfl
  · intro b cs' e' g' hb
    simp only [AH.putCells, Tr.get_put] at hb ⊢
    by_cases e1 : b = x
    · rw [if_pos e1] at hb; cases hb; rw [e1]; exact s.ai x _ _ _ hxt
    · rw [if_neg e1] at hb; exact s.ai b _ _ _ hb
  · simp only [AH.putCells, minN_eq]; omega
  · intro b hb _
    simp only [AH.putCells, minN_eq] at hb
    rw [get_putCells hx, if_neg (by omega)]
    cases hh : h.get b with
    | none => rfl
    | some o => cases o with
      | cells cs' e' g' =>
        have := s.ai b _ _ _ (get_tr hh).1
        simp only [noGrp, if_neg (show ¬ g' = g by omega)]
      | _ => rfl
  · intro b cs' e' g' hb
    simp only [AH.putCells, Tr.get_put] at hb
    by_cases e1 : b = x
    · rw [if_pos e1] at hb; cases hb; rw [e1]; exact ⟨_, _, hxt⟩
    · rw [if_neg e1] at hb; exact ⟨_, _, hb⟩
/-- a row that may share memory with the row x, or not -/
theorem nxt_beside {x : Nat} {cs cs0 : List Value} {e e0 : TypeId} {g : Nat} {i j : Img} (s : SR P M h w) (hm : M x = some i) (hx : h.get x = some (.cells cs0 e0 g))
    (hw : (j.blk = i.blk ∧ Turn w w' i.blk) ∨ (j.blk = w.heap.size ∧ ∃ ob, Grew w w' ob))
    (hk : OR P M i w' (.cells cs0 e0 g)) (hj : OR P (M.set h.next j) j w' (.cells cs e g)) :
    Nxt P M h w (M.set h.next j) (h.newBeside g x cs e) w' := by
  have hxt := (get_tr hx).1
  have hxg := s.ai x _ _ _ hxt
  have hid := s.fresh h.next (Nat.le_refl _)
  have hle : M.le (M.set h.next j) := Mu.le_set j hid
  have hlt := s.lt hx
  have hget := get_newBeside (h := h) hx cs e
  -- what is left of the others
  have hold : ∀ b o', (h.newBeside g x cs e).get b = some o' → b ≠ h.next → b ≠ x → h.get b = some o' ∧ grpOf o' ≠ some g := by
    intro b o' hb e1 e2
    rw [hget, if_neg e1, if_neg e2] at hb
    exact noGrp_some hb
  have hblk : ∀ b o' k, (h.newBeside g x cs e).get b = some o' → b ≠ h.next → b ≠ x → M b = some k → k.blk ≠ i.blk ∧ k.blk < w.heap.size := by
    intro b o' k hb e1 e2 hk'
    obtain ⟨h1, h2⟩ := hold b o' hb e1 e2
    refine ⟨fun hbl => ?_, ?_⟩
    · rcases s.sep b x o' _ k i h1 hx hk' hm hbl with h3 | ⟨g', g1, g2⟩
      · exact e2 h3
      · cases g2; exact h2 g1
    · obtain ⟨k', hk1, ho⟩ := s.obj b o' h1
      rw [hk'] at hk1; cases hk1; exact ho.lt
  have hxget : (h.newBeside g x cs e).get x = some (.cells cs0 e0 g) := by rw [hget, if_neg (by omega), if_pos rfl]; exact hx
  have hnget : (h.newBeside g x cs e).get h.next = some (.cells cs e g) := by rw [hget, if_pos rfl]
  have hi : i.blk < w.heap.size := by
    obtain ⟨i', h1, h2⟩ := s.obj x _ hx
    rw [hm] at h1; cases h1; exact h2.lt
  have hsame : Same w w' := by rcases hw with ⟨_, t⟩ | ⟨_, _, t⟩ <;> exact t.toSame
  have hsize : w.heap.size ≤ w'.heap.size := by
    rcases hw with ⟨_, t⟩ | ⟨_, _, t⟩
    · rw [t.size]; exact Nat.le_refl _
    · rw [t.size]; omega
  have hkeep : ∀ y, y < w.heap.size → y ≠ i.blk → w'.heap[y]? = w.heap[y]? := by
    intro y hy hne
    rcases hw with ⟨_, t⟩ | ⟨_, _, t⟩
    · exact t.old y hne
    · exact t.old y hy
  -- the new one lies at x's, or in a new block
  have hjb : j.blk = i.blk ∨ j.blk = w.heap.size := by rcases hw with ⟨t, _⟩ | ⟨t, _⟩ <;> simp [t]
  refine ⟨⟨?_, ?_, ?_, ?_, by have := s.lon; simp only [AH.newBeside, minN_eq]; omega⟩, hle, Nat.le_succ _, fun b hb => Mu.set_other M j (by omega), ?_, ?_, hsize, hsame.os, hsame.tape, hsame.output, ?_, ?_, ?_, ?_, ?_⟩
  · intro b cs' e' g' hb
    simp only [AH.newBeside, Tr.get_put] at hb ⊢
    by_cases e1 : b = h.next
    · rw [if_pos e1] at hb; cases hb; omega
    · rw [if_neg e1] at hb; have := s.ai b _ _ _ hb; omega
  · intro b o hb
    by_cases e1 : b = h.next
    · subst e1; rw [hnget] at hb; cases hb
      exact ⟨j, Mu.set_same _ _ _, hj⟩
    · by_cases e2 : b = x
      · subst e2; rw [hxget] at hb; cases hb
        exact ⟨i, hle _ _ hm, hk.mono hle⟩
      · obtain ⟨h1, _⟩ := hold b o hb e1 e2
        obtain ⟨k, hk1, ho⟩ := s.obj b o h1
        obtain ⟨n1, n2⟩ := hblk b o k hb e1 e2 hk1
        exact ⟨k, hle _ _ hk1, (ho.mono hle).world (hkeep _ n2 n1)⟩
  · intro b b' o1 o2 i1 i2 h1 h2 m1 m2 hb
    by_cases e1 : b = h.next
    · subst e1
      rw [hnget] at h1; cases h1
      rw [Mu.set_same] at m1; cases m1
      by_cases e2 : b' = h.next
      · exact .inl e2.symm
      · rw [Mu.set_other M j e2] at m2
        by_cases e3 : b' = x
        · subst e3; rw [hxget] at h2; cases h2; exact .inr ⟨g, rfl, rfl⟩
        · obtain ⟨n1, n2⟩ := hblk b' o2 i2 h2 e2 e3 m2
          rcases hjb with t | t
          · exact absurd (hb.symm.trans t) n1
          · omega
    · rw [Mu.set_other M j e1] at m1
      by_cases e2 : b' = h.next
      · subst e2
        rw [hnget] at h2; cases h2
        rw [Mu.set_same] at m2; cases m2
        by_cases e3 : b = x
        · subst e3; rw [hxget] at h1; cases h1; exact .inr ⟨g, rfl, rfl⟩
        · obtain ⟨n1, n2⟩ := hblk b o1 i1 h1 e1 e3 m1
          rcases hjb with t | t
          · exact absurd (hb.trans t) n1
          · omega
      · rw [Mu.set_other M j e2] at m2
        have q : ∀ b o', (h.newBeside g x cs e).get b = some o' → b ≠ h.next → h.get b = some o' := by
          intro b o' hb e1
          by_cases e3 : b = x
          · subst e3; rw [hxget] at hb; rw [hx]; exact hb
          · exact (hold b o' hb e1 e3).1
        exact s.sep b b' o1 o2 i1 i2 (q b o1 h1 e1) (q b' o2 h2 e2) m1 m2 hb
  · intro b hb
    have hb' : h.next + 1 ≤ b := hb
    rw [Mu.set_other M j (by omega)]
    exact s.fresh b (by omega)
  · rintro y ⟨b, o', k, hb, hk', hy⟩
    by_cases e1 : b = h.next
    · subst e1; rw [Mu.set_same] at hk'; cases hk'
      rcases hjb with t | t
      · exact .inl ⟨x, _, i, hx, hm, by rw [← hy, t]⟩
      · exact .inr (by omega)
    · rw [Mu.set_other M j e1] at hk'
      by_cases e2 : b = x
      · subst e2; exact .inl ⟨b, _, k, hx, hk', hy⟩
      · exact .inl ⟨b, o', k, (hold b o' hb e1 e2).1, hk', hy⟩
  · intro y hy hn
    exact hkeep y hy (fun e1 => hn ⟨x, _, i, hx, hm, e1.symm⟩)
  · simp only [AH.newBeside, minN_eq]; omega
  · intro b hb hbn
    simp only [AH.newBeside, minN_eq] at hb
    rw [hget, if_neg (by omega)]
    by_cases e2 : b = x
    · rw [if_pos e2]
    · rw [if_neg e2]
      cases hh : h.get b with
      | none => rfl
      | some o => cases o with
        | cells cs' e' g' =>
          have := s.ai b _ _ _ (get_tr hh).1
          simp only [noGrp, if_neg (show ¬ g' = g by omega)]
        | _ => rfl
  · intro b cs' e' g' hb
    simp only [AH.newBeside, Tr.get_put] at hb
    by_cases e1 : b = h.next
    · rw [if_pos e1] at hb; cases hb; exact .inr ⟨x, _, _, hxt⟩
    · rw [if_neg e1] at hb; exact .inr ⟨b, _, _, hb⟩
  · intro b cs' e' g' hb hn hgn
    simp only [AH.newBeside, Tr.get_put] at hb
    by_cases e1 : b = h.next
    · rw [if_pos e1] at hb; cases hb; simp only [AH.newBeside, minN_eq]; omega
    · rw [if_neg e1] at hb; have := s.ai b _ _ _ hb; omega
  · intro b cs' e' g' hb hn
    simp only [AH.newBeside, Tr.get_put] at hb
    rw [if_neg (by omega)] at hb; exact ⟨_, _, hb⟩
/-- a block goes -/
theorem nxt_del (s : SR P M h w) (x : Nat) : Nxt P M h w M (h.del x) w := by
  have hold : ∀ b o', (h.del x).get b = some o' → h.get b = some o' := by
    intro b o' hb
    rw [get_del] at hb
    by_cases e : b = x
    · rw [if_pos e] at hb; cases hb
    · rw [if_neg e] at hb; exact hb
  have hai : AI (h.del x) := by
    intro b cs e g hb
    simp only [AH.del, Tr.get_put] at hb ⊢
    by_cases e1 : b = x
    · rw [if_pos e1] at hb; cases hb
    · rw [if_neg e1] at hb; exact s.ai b _ _ _ hb
  refine { Nxt.refl s with
    sr := ⟨hai, fun b o hb => s.obj b o (hold b o hb), fun b b' o o' i i' h1 h2 => s.sep b b' o o' i i' (hold _ _ h1) (hold _ _ h2), s.fresh, by have := s.lon; simp only [AH.del, minN_eq]; omega⟩,
    next := Nat.le_refl _, img := fun y ⟨b, o, i, h1, h2, h3⟩ => .inl ⟨b, o, i, hold _ _ h1, h2, h3⟩,
    lo := by simp only [AH.del, minN_eq]; omega, fp := fun b hb _ => ?_, grp := fun b cs e g hb => ?_, gl := fun b cs e g hb hn _ => absurd (hai b cs e g hb).2 (by show ¬ b < h.next; omega), gb := fun b cs e g hb _ => ?_ }
  · simp only [AH.del, minN_eq] at hb
    rw [get_del, if_neg (by omega)]
  · simp only [AH.del, Tr.get_put] at hb
    by_cases e1 : b = x
    · rw [if_pos e1] at hb; cases hb
    · rw [if_neg e1] at hb; exact .inr ⟨b, _, _, hb⟩
  · simp only [AH.del, Tr.get_put] at hb
    by_cases e1 : b = x
    · rw [if_pos e1] at hb; cases hb
    · rw [if_neg e1] at hb; exact ⟨_, _, hb⟩
end Go.Ev
