/- Regions that draw their order: the steps (own work). -/
import Derived.Test.YtbfepjofmkdafaaGreatEvS20
namespace Go.Ev
variable {P : Cx} {M M0 : Mu} {h h' h0 : AH} {w w' w0 : World}
section
variable {ops : Array Oper} {L : List PO} {R : Rec} {lo sz mask : Nat} {outs : Out} {listed : Array Bool} {dn lag rest r : List PO} {E E' : Env} {pend : List (PO × Nat)} {rd : List PO} {a : Act} {x : PO} {o : Oper}

theorem DI.agr (pl : PlanOK P ops L) (d : DI P ops L R lo sz mask M0 h0 w0 outs listed dn lag rest E h pend rd M a w) (hx : x ∈ lag ∨ x ∈ rest)
    (hb : ∀ j, x.w.testBit j = true → listed.getD j false = true) (hE' : ∀ k, E'.get k = if k ∈ lag.filterMap (·.c.dst) then none else E.get k) : AgR x E E' := by
  intro t ht
  rw [hE', if_neg]
  intro hm
  obtain ⟨y, hy, hyt⟩ := List.mem_filterMap.1 hm
  have hky := d.kinds y hy
  rcases pair_cases pl.pair (d.mem (.inl hy)) (d.mem hx) with q | q | q
  · subst q; rw [pl.self y (d.mem hx) hky t hyt] at ht; cases ht
  · rcases q.earlier with g | ⟨_, g⟩
    · exact getD_two (hb _ g) (d.open_ pl (.inl hy))
    · rw [g t hyt] at ht; cases ht
  · rcases q.later with ⟨_, g⟩ | ⟨g, _⟩
    · omega
    · rw [g t hyt] at ht; cases ht
theorem DI.er (d : DI P ops L R lo sz mask M0 h0 w0 outs listed dn lag rest E h pend rd M a w) (hE' : ∀ k, E'.get k = if k ∈ lag.filterMap (·.c.dst) then none else E.get k) : ER M E' a.tmps := by
  intro k v hk
  rw [hE'] at hk
  split at hk
  · cases hk
  · rename_i hn
    rcases d.env k v hk with ⟨y, hy, hyk⟩ | q
    · exact absurd (List.mem_filterMap.2 ⟨y, hy, hyk⟩) hn
    · exact q
theorem DI.mat (pl : PlanOK P ops L) (d : DI P ops L R lo sz mask M0 h0 w0 outs listed dn lag rest E h pend rd M a w) {W : Nat} {h1 : AH} (hb : ∀ p ∈ pend, W.testBit p.1.i = true → p.1 ∉ lag) (hm : matP P E W pend h = some h1) :
    Nxt P M0 h0 w0 M h1 w ∧ h1.next = h.next ∧ (∀ y, Held M h1 y → Held M h y ∨ ∃ p ∈ pend, W.testBit p.1.i = true ∧ ∃ i, M p.2 = some i ∧ i.blk = y) ∧
      (∀ b cs e g, h1.tr.get b = some (.cells cs e g) → (∃ b0 cs0 e0, h.tr.get b0 = some (.cells cs0 e0 g)) ∨ ∃ p ∈ pend, W.testBit p.1.i = true ∧ g = p.2) := by
  refine matP_ok d.nx d.pnd (fun p hp => ?_) (fun p hp hw => d.pf p hp (hb p hp hw)) d.pnh d.pdis (fun p hp b cs e g hg => ?_) hm
  · obtain ⟨g1, g2, _⟩ := d.pdn p hp
    obtain ⟨o, it⟩ := pl.item p.1 (by rw [d.split]; exact List.mem_append_left _ g1)
    have := (Array.getElem?_eq_some_iff.1 it.op).1
    have := d.hnext
    omega
  · rw [(d.pdn p hp).2.1]
    exact d.gfree p.1 (.inl ⟨p.2, hp⟩) b cs e g hg
theorem DI.notLag (pl : PlanOK P ops L) (d : DI P ops L R lo sz mask M0 h0 w0 outs listed dn lag rest E h pend rd M a w) (hb : ∀ j, x.w.testBit j = true → listed.getD j false = true) {y : PO} (hy : x.w.testBit y.i = true) : y ∉ lag :=
  fun hl => getD_two (hb _ hy) (d.open_ pl (.inl hl))
theorem cl_set (hcl : CL ops listed) (hop : ops[x.i]? = some o) (hr : ∀ e ∈ o.after, Region.binds .any e = true → listed.getD e.on false = true) : CL ops (listed.setIfInBounds x.i true) := by
  intro j o' ho' hj e he hbn
  by_cases hji : x.i = j
  · subst hji
    rw [hop] at ho'; cases ho'
    exact getD_set_true (hr e he hbn)
  · rw [getD_set_ne false hji] at hj
    exact getD_set_true (hcl j o' ho' hj e he hbn)
/-- an operation that has been gone through ahead of its time is carried out -/
theorem DI.done (pl : PlanOK P ops L) (d : DI P ops L R lo sz mask M0 h0 w0 outs listed dn lag rest E h pend rd M a w) (hx : x ∈ lag) (hop : ops[x.i]? = some o)
    (hr : ∀ e ∈ o.after, Region.binds .any e = true → listed.getD e.on false = true) {M' : Mu} {u : Value} (hM : M.le M') (nx' : Nxt P M0 h0 w0 M' h w') (mks' : Marks M' h w' lo a.defers)
    (hval : ∀ t v, x.c.dst = some t → E.get t = some v → VR M' v u) (hdb : ∀ t, x.c.dst = some t → t < a.tmps.size)
    (hpf : ∀ p ∈ pend, p.1 ∉ lag → PE P M' w' w0 E p) (hpx : ∀ p ∈ pend, p.1 = x → PE P M' w' w0 E p) (hfree : ∀ y, (y ∈ lag ∨ y ∈ rest) → y.i ≠ x.i → M' (h0.next + y.i) = none)
    (hpnh : ∀ p ∈ pend, ∀ i, M' p.2 = some i → ¬ Held M' h i.blk) (hpdis : ∀ p ∈ pend, ∀ q ∈ pend, p.2 ≠ q.2 → ∀ i j, M' p.2 = some i → M' q.2 = some j → i.blk ≠ j.blk) :
    DI P ops L R lo sz mask M0 h0 w0 outs (listed.setIfInBounds x.i true) dn (lag.filter fun y => y.i != x.i) rest E h pend rd M' (a.put x.c.dst u) w' := by
  have hlt := (Array.getElem?_eq_some_iff.1 hop).1
  have hsub : ∀ y, y ∈ (lag.filter fun y => y.i != x.i) ↔ y ∈ lag ∧ y.i ≠ x.i := by intro y; simp
  refine ⟨d.split, fun y hy => d.lagsub y ((hsub y).1 hy).1, fun y hy => d.kinds y ((hsub y).1 hy).1, ?_, by simp [d.lsz], cl_set d.cl hop hr, nx', d.hnext, ?_, d.hE, ?_, ?_, fun y hy => d.lagf y ((hsub y).1 hy).1, d.pdn, ?_, ?_, ?_, hpnh, hpdis, d.gfree, d.pnd, d.nf, d.sub⟩
  · intro i hi
    by_cases hix : x.i = i
    · subst hix
      constructor
      · intro hf
        rw [Array.getD_eq_getD_getElem?, Array.getElem?_setIfInBounds_self_of_lt (by rw [d.lsz]; exact hlt)] at hf
        cases hf
      · rintro ⟨y, q | q, he⟩
        · exact absurd he ((hsub y).1 q).2
        · exact absurd he.symm (d.pairs pl (d.lagsub x hx) q).ne
    · rw [getD_set_ne true hix, d.unl i hi]
      constructor
      · rintro ⟨y, q | q, he⟩
        · exact ⟨y, .inl ((hsub y).2 ⟨q, by omega⟩), he⟩
        · exact ⟨y, .inr q, he⟩
      · rintro ⟨y, q | q, he⟩
        · exact ⟨y, .inl ((hsub y).1 q).1, he⟩
        · exact ⟨y, .inr q, he⟩
  · intro k v hk
    have hput : ∀ t, x.c.dst = some t → (a.put x.c.dst u).tmps[t]? = some u := by
      intro t ht
      rw [ht]; simp [Act.put, hdb t ht]
    rcases d.env k v hk with ⟨y, hy, hyk⟩ | ⟨u0, hu0, hv0⟩
    · by_cases hyx : y.i = x.i
      · have := idx_inj pl (d.mem (.inl hy)) (d.mem (.inl hx)) hyx
        subst this
        exact .inr ⟨u, hput k hyk, hval k v hyk hk⟩
      · exact .inl ⟨y, (hsub y).2 ⟨hy, hyx⟩, hyk⟩
    · right
      by_cases hxk : x.c.dst = some k
      · exact ⟨u, hput k hxk, hval k v hxk hk⟩
      · refine ⟨u0, ?_, hv0.mono hM⟩
        cases hd : x.c.dst with
        | none => exact hu0
        | some t =>
          rw [hd] at hxk
          simp only [Act.put]
          rw [Array.getElem?_setIfInBounds_ne (by intro q; exact hxk (by rw [q]))]; exact hu0
  · rw [put_defers]; exact mks'
  · rw [put_size]; exact d.asz
  · intro p hp hl
    exact d.pw p hp ((hsub _).1 hl).1
  · intro p hp hl
    by_cases hpl : p.1 ∈ lag
    · have hpi : p.1.i = x.i := by
        by_cases q : p.1.i = x.i
        · exact q
        · exact absurd ((hsub _).2 ⟨hpl, q⟩) hl
      exact hpx p hp (idx_inj pl (d.mem (.inl hpl)) (d.mem (.inl hx)) hpi)
    · exact hpf p hp hpl
  · intro y hy
    rcases hy with q | q
    · exact hfree y (.inl ((hsub y).1 q).1) ((hsub y).1 q).2
    · exact hfree y (.inr q) (fun e => (d.pairs pl (d.lagsub x hx) q).ne e.symm)
theorem bndO_dst {sz : Nat} : ∀ {l : List Oper}, bndO sz l = true → ∀ x ∈ l, ∀ d, x.dst = some d → d < sz := by
  intro l
  induction l with
  | nil => intro _ x hx; cases hx
  | cons y r ihl =>
    intro hb x hx d hd
    obtain ⟨q1, q2⟩ := bc_and (show bc (match y.dst with | some d => Nat.blt d sz | none => true) (bndO sz r) false = true from hb)
    rcases List.mem_cons.1 hx with q | q
    · subst q; rw [hd] at q1; exact bltN q1
    · exact ihl q2 x q d hd
theorem wp_same {F : Fence} {k : Nat} {next : Act → World → Prop} {Q : Exit → Act → World → Prop} (hF : ∀ f, F.fn f) (hnd : ∀ c, o.op ≠ .defer c) {u : Value} (hrun : (execOp a.eval o).run P.P w = .ok (.value u) w)
    (hn : next (a.put o.dst u) w) : o.wpIn F k P.P a w next Q := by
  refine ⟨fun f _ => hF f, ?_⟩
  rw [Oper.semAt_eq _ _ _ hnd, hrun]
  exact hn
theorem exec_lag (ok : CxOK P) (sm0 : SyM P M0) (pl : PlanOK P ops L) (hbd : bndO sz ops.toList = true) {ρ : Option Nat} {k : Nat} {Q : Exit → Act → World → Prop}
    (d : DI P ops L R lo sz mask M0 h0 w0 outs listed dn lag rest E h pend rd M a w) (hx : x ∈ lag) (hready : x.i ∈ Region.ready .any ops listed) :
    wpOpIn (Wd ρ) k P.P ops Q x.i (fun a' w' => ∃ M', DI P ops L R lo sz mask M0 h0 w0 outs (listed.setIfInBounds x.i true) dn (lag.filter fun y => y.i != x.i) rest E h pend rd M' a' w') a w := by
  obtain ⟨o, it⟩ := pl.item x (d.mem (.inl hx))
  obtain ⟨_, o', ho', hall⟩ := mem_ready.1 hready
  rw [it.op] at ho'; cases ho'
  have hbits := it.w1 listed d.cl hall
  have hdst : x.c.dst = o.dst := by rw [it.c, compOp_dst]
  have hgd : x.c.guard = guardOf ops o := by rw [it.c, compOp_guard]
  have homem : o ∈ ops.toList := by simpa using Array.mem_of_getElem? it.op
  have hdb : ∀ t, x.c.dst = some t → t < a.tmps.size := fun t ht => by rw [d.asz]; exact bndO_dst hbd o homem t (by rw [← hdst]; exact ht)
  obtain ⟨E', hE'⟩ := env_without E (lag.filterMap (·.c.dst))
  have hag := d.agr pl (.inl hx) hbits hE'
  have her := d.er hE'
  obtain ⟨b, hb, hcase⟩ := d.lagf x hx
  have hwb : Region.wanted o (yielded ops a.tmps) = b := wanted_ok her (by rw [← hgd, ← item_wanted it hag]; exact hb)
  unfold wpOpIn
  simp only [it.op, hwb]
  have hkx := d.kinds x hx
  have sm := sm0.mono d.nx.mu
  -- with nothing made
  have plain : ∀ u, (∀ t v, x.c.dst = some t → E.get t = some v → VR M v u) → (∀ p ∈ pend, p.1 ≠ x) → ∃ M', DI P ops L R lo sz mask M0 h0 w0 outs (listed.setIfInBounds x.i true) dn (lag.filter fun y => y.i != x.i) rest E h pend rd M' (a.put o.dst u) w := by
    intro u hval hnp
    rw [← hdst]
    exact ⟨M, d.done pl hx it.op hall (Mu.le_refl M) d.nx d.mks hval hdb d.pf (fun p hp e => absurd e (hnp p hp)) (fun y hy _ => d.free y hy) d.pnh d.pdis⟩
  rcases hcase with ⟨rfl, hd⟩ | ⟨rfl, v, hd, hkk⟩
  · simp only [Bool.false_eq_true, if_false]
    refine ⟨fun _ _ => trivial, plain undef (fun t v ht hv => ?_) (fun p hp e => ?_)⟩
    · rw [hd t ht] at hv; cases hv; exact undef_ok
    · have := d.pw p hp (by rw [e]; exact hx)
      rw [e, hb] at this; cases this
  · simp only [if_true]
    have hvE : ∀ t v', x.c.dst = some t → E.get t = some v' → v' = v := fun t v' ht hv => by rw [hd t ht] at hv; cases hv; rfl
    rcases hkk with ⟨k0, hr⟩ | ⟨k1, hm, hr⟩ | ⟨k2, hm, kk, mk, h1, h2, h3⟩
    · have hrun : (compOp P o (guardOf ops o)).run P E' h = some (.val v h) := by rw [← it.c, ← item_run it hag]; exact hr h
      obtain ⟨v', u, hv', hex, hvr⟩ := op_same ok sm d.nx.sr her (.inl (by rw [← it.c]; exact k0)) hrun
      cases hv'
      refine wp_same (fun _ => trivial) (op_noDefer hrun) hex (plain u (fun t v' ht hv => by rw [hvE t v' ht hv]; exact hvr) (fun p hp e => ?_))
      have := (d.pdn p hp).2.2; rw [e] at this; omega
    · obtain ⟨h1, h2, q1, q2⟩ := readP_some hr
      obtain ⟨nx1, _, _, _⟩ := d.mat pl (fun p hp hw => d.notLag pl hbits hw) q1
      have hrun : (compOp P o (guardOf ops o)).run P E' h1 = some (.val v h2) := by rw [← it.c, ← item_run it hag]; exact q2
      obtain ⟨v', u, hv', hex, hvr⟩ := op_same ok sm nx1.sr her (.inr (by rw [← it.c]; exact k1)) hrun
      cases hv'
      refine wp_same (fun _ => trivial) (op_noDefer hrun) hex (plain u (fun t v' ht hv => by rw [hvE t v' ht hv]; exact hvr) (fun p hp e => ?_))
      have := (d.pdn p hp).2.2; rw [e] at this; omega
    · have hrun : ∀ h', (compOp P o (guardOf ops o)).run P E' h' = some (.val (mk h'.next) (addK kk h')) := fun h' => by rw [← it.c, ← item_run it hag]; exact h3 h'
      obtain ⟨kf, mkf, cmk, ob, sz', tot, f1, f2, f3, f4, f5⟩ := op_fresh ok her (by rw [← it.c]; exact k2) (hrun h)
      have hlt := (Array.getElem?_eq_some_iff.1 it.op).1
      have hnone := d.free x (.inl hx)
      obtain ⟨w', hw'⟩ : ∃ w' : World, w' = { w with heap := w.heap.push ob } := ⟨_, rfl⟩
      have gw : Grew w w' ob := by rw [hw']; exact ⟨⟨rfl, rfl, rfl⟩, rfl⟩
      obtain ⟨i, hi⟩ : ∃ i : Img, i = ⟨w.heap.size, 0, sz', tot, undef⟩ := ⟨_, rfl⟩
      have hib : i.blk = w.heap.size := by rw [hi]
      have hle : M.le (M.set (h0.next + x.i) i) := Mu.le_set i hnone
      have nx' : Nxt P M0 h0 w0 (M.set (h0.next + x.i) i) h w' := nxt_hidden d.nx hnone (by omega) (by have := d.hnext; omega) gw
      -- what stands for a value
      have hmk : v = mkf (h0.next + x.i) := by
        have := f2 { h with next := h0.next + x.i } _ (hrun _)
        simp only [R1.val.injEq] at this
        rw [h1]; exact this.1
      refine ⟨fun _ _ => trivial, ?_⟩
      rw [Oper.semAt_eq _ _ _ (op_noDefer (hrun h)), f3 w, ← hw']
      show ∃ M', DI P ops L R lo sz mask M0 h0 w0 outs (listed.setIfInBounds x.i true) dn (lag.filter fun y => y.i != x.i) rest E h pend rd M' (a.put o.dst (cmk w.heap.size)) w'
      rw [← hdst]
      have hbel : ∀ p ∈ pend, ∀ j, M p.2 = some j → j.blk < w.heap.size := by
        intro p hp j hj
        by_cases hpl : p.1 ∈ lag
        · have := d.free p.1 (.inl hpl)
          rw [(d.pdn p hp).2.1, this] at hj; cases hj
        · obtain ⟨_, _, ob', j', _, _, g3, _, g5, _⟩ := d.pf p hp hpl
          rw [hj] at g5; cases g5
          exact (Array.getElem?_eq_some_iff.1 g3).1
      have hother : ∀ p ∈ pend, ∀ j, (M.set (h0.next + x.i) i) p.2 = some j → (p.2 = h0.next + x.i ∧ j = i) ∨ (p.2 ≠ h0.next + x.i ∧ M p.2 = some j) := by
        intro p hp j hj
        by_cases he : p.2 = h0.next + x.i
        · rw [he, Mu.set_same] at hj; cases hj; exact .inl ⟨he, rfl⟩
        · rw [Mu.set_other M i he] at hj; exact .inr ⟨he, hj⟩
      have hheld : ∀ y, Held (M.set (h0.next + x.i) i) h y → Held M h y ∧ y < w.heap.size := by
        rintro y ⟨b, ob', j, hb, hj, hy⟩
        obtain ⟨j', hj', ho⟩ := d.nx.sr.obj b ob' hb
        have hne : b ≠ h0.next + x.i := fun e => by rw [e, hnone] at hj'; cases hj'
        rw [Mu.set_other M i hne, hj'] at hj; cases hj
        exact ⟨⟨b, ob', _, hb, hj', hy⟩, by rw [← hy]; exact ho.lt⟩
      refine ⟨_, d.done pl hx it.op hall hle nx' (d.mks.of nx'.sr fun r _ hr => by rw [gw.old r (Array.getElem?_eq_some_iff.1 hr).1]; exact hr) (fun t v' ht hv => ?_) hdb (fun p hp hl => ?_) (fun p hp e => ?_) (fun y hy hne => ?_) (fun p hp j hj hh => ?_) (fun p hp q hq hne j j' hj hj' => ?_)⟩
      · rw [hvE t v' ht hv, hmk]
        refine f4 _ _ _ ?_
        rw [Mu.set_same, hi]
      · exact (d.pf p hp hl).next hle (fun j _ hj => gw.old _ hj) (fun _ => rfl)
      · refine ⟨kf, mkf, ob, i, f1, fun h' => ?_, by rw [hib]; exact gw.new, by rw [hib]; exact d.nx.size, ?_, ?_⟩
        · rw [e, h3 h', f2 h' _ (hrun h')]
        · rw [(d.pdn p hp).2.1, e, Mu.set_same]
        · intro M' w'' hM' hw''
          rw [hi] at hw'' ⊢
          exact f5 M' p.2 w.heap.size w'' (Mu.le_trans hle hM') hw''
      · rw [Mu.set_other M i (by omega)]; exact d.free y hy
      · obtain ⟨q1, q2⟩ := hheld _ hh
        rcases hother p hp j hj with ⟨_, g⟩ | ⟨_, g⟩
        · rw [g, hib] at q2; omega
        · exact d.pnh p hp j g q1
      · rcases hother p hp j hj with ⟨g1, g⟩ | ⟨_, g⟩
        · rcases hother q hq j' hj' with ⟨g2, _⟩ | ⟨_, g'⟩
          · omega
          · have := hbel q hq j' g'; rw [g, hib]; omega
        · rcases hother q hq j' hj' with ⟨_, g'⟩ | ⟨_, g'⟩
          · have := hbel p hp j g; rw [g', hib]; omega
          · exact d.pdis p hp q hq hne j j' g g'
theorem again_cons (E : Env) (h : AH) (pend : List (PO × Nat)) (y : PO) (l : List PO) : again P E h pend (y :: l) = match readP P E h pend y with
    | some v => bc (sameD E y.c.dst v) (again P E h pend l) false
    | none => false := by
  show again1 P E h pend y (again P E h pend l) = _
  unfold again1
  cases readP P E h pend y <;> rfl
theorem again_ok {E : Env} {h : AH} {pend : List (PO × Nat)} : ∀ {l : List PO}, again P E h pend l = true → ∀ y ∈ l, ∃ v, readP P E h pend y = some v ∧ ∀ d, y.c.dst = some d → E.get d = some v := by
  intro l
  induction l with
  | nil => intro _ y hy; cases hy
  | cons z l ih =>
    intro hag y hy
    rw [again_cons] at hag
    cases hr : readP P E h pend z with
    | none => rw [hr] at hag; cases hag
    | some v =>
      rw [hr] at hag
      obtain ⟨h1, h2⟩ := bc_and (show bc (sameD E z.c.dst v) (again P E h pend l) false = true from hag)
      rcases List.mem_cons.1 hy with q | q
      · subst q
        refine ⟨v, hr, fun d hd => ?_⟩
        unfold sameD at h1
        rw [hd] at h1
        simp only at h1
        cases hg : E.get d with
        | none => rw [hg] at h1; cases h1
        | some u => rw [hg] at h1; rw [veq_eq 6 h1]
      · exact ih h2 y q
/-- behind an effect -/
theorem DI.eff (pl : PlanOK P ops L) (d : DI P ops L R lo sz mask M0 h0 w0 outs listed dn lag (x :: r) E h pend rd M a w) (hk : 3 ≤ x.c.kind) (it : ItemOK P ops x o)
    (hr : ∀ e ∈ o.after, Region.binds .any e = true → listed.getD e.on false = true) (hdb : ∀ t, x.c.dst = some t → t < a.tmps.size) {h1 : AH} (hm : matP P E x.w pend h = some h1)
    {M' : Mu} {v u : Value} (hn : Nxt P M h1 w M' h' w') (hv : VR M' v u) (hnf : drawN P x (drawL P R mask h0.next r) (putE E x.c.dst v) h' pend rd ≠ .fail)
    (hsub : ∀ s, inO s (drawN P x (drawL P R mask h0.next r) (putE E x.c.dst v) h' pend rd) → inO s outs) :
    DI P ops L R lo sz mask M0 h0 w0 outs (listed.setIfInBounds x.i true) (dn ++ [x]) lag r (putE E x.c.dst v) h' (leftP x.w pend) (leftR x.w rd) M' (a.put x.c.dst u) w' := by
  have hbits := it.w1 listed d.cl hr
  have hlt := (Array.getElem?_eq_some_iff.1 it.op).1
  have hpair : ∀ y ∈ dn, PairOK y x := fun y hy => d.pairs pl hy (by simp)
  have hrest : ∀ y ∈ r, PairOK x y := by
    have := pl.pair
    rw [d.split, List.pairwise_append, List.pairwise_cons] at this
    exact fun y hy => this.2.1.1 y hy
  have hnl : ∀ y ∈ lag, x.w.testBit y.i = false := fun y hy => by
    cases hq : x.w.testBit y.i with
    | false => rfl
    | true => exact absurd hy (d.notLag pl hbits hq)
  -- what is not waited for does not look at what it turns
  have hoff : ∀ y ∈ dn, x.w.testBit y.i = false → (∀ t, x.c.dst = some t → y.rb.testBit t = false) ∧ ∀ t, x.c.dst = some t → y.c.dst ≠ some t := by
    intro y hy hw
    rcases (hpair y hy).later with ⟨q, _⟩ | q
    · rw [hw] at q; cases q
    · exact q
  have hag : ∀ y ∈ dn, x.w.testBit y.i = false → AgR y (putE E x.c.dst v) E := fun y hy hw t ht => by
    rw [putE_get, if_neg]
    intro hd
    rw [(hoff y hy hw).1 t hd] at ht; cases ht
  have hrun : ∀ y ∈ dn, x.w.testBit y.i = false → ∀ h, y.c.run P (putE E x.c.dst v) h = y.c.run P E h := fun y hy hw h => by
    obtain ⟨o', it'⟩ := pl.item y (by rw [d.split]; exact List.mem_append_left _ hy)
    exact item_run it' (hag y hy hw) h
  have hwant : ∀ y ∈ dn, x.w.testBit y.i = false → wantedE (putE E x.c.dst v) y.c.guard = wantedE E y.c.guard := fun y hy hw => by
    obtain ⟨o', it'⟩ := pl.item y (by rw [d.split]; exact List.mem_append_left _ hy)
    exact item_wanted it' (hag y hy hw)
  have hdst : ∀ y ∈ dn, x.w.testBit y.i = false → ∀ t, y.c.dst = some t → (putE E x.c.dst v).get t = E.get t := fun y hy hw t ht => by
    rw [putE_get, if_neg (fun q => (hoff y hy hw).2 t q ht)]
  obtain ⟨nx1, hnx1, hheld, hgr⟩ := d.mat pl (fun p hp hw => d.notLag pl hbits hw) hm
  have hheld' : ∀ p ∈ pend, x.w.testBit p.1.i = false → ∀ i, M p.2 = some i → ¬ Held M h1 i.blk := by
    intro p hp hw i hi hh
    rcases hheld _ hh with q | ⟨p', hp', hw', j, hj, hjb⟩
    · exact d.pnh p hp i hi q
    · refine d.pdis p' hp' p hp ?_ j i hj hi hjb
      intro e
      rw [(d.pdn p' hp').2.1, (d.pdn p hp).2.1] at e
      have : p'.1.i = p.1.i := by omega
      rw [this, hw] at hw'; cases hw'
  -- the numbers that are still set aside
  have hidlt : ∀ y, y ∈ L → h0.next + y.i < h1.next := by
    intro y hy
    obtain ⟨o', it'⟩ := pl.item y hy
    have := (Array.getElem?_eq_some_iff.1 it'.op).1
    have := d.hnext
    omega
  have hpL : ∀ p ∈ pend, p.1 ∈ L := fun p hp => by rw [d.split]; exact List.mem_append_left _ (d.pdn p hp).1
  have hMold : ∀ p ∈ pend, M' p.2 = M p.2 := fun p hp => hn.old _ (by rw [(d.pdn p hp).2.1]; exact hidlt p.1 (hpL p hp))
  -- the rest of the run
  have hnf' : again P (putE E x.c.dst v) h' (leftP x.w pend) (leftR x.w rd) = true ∧ drawL P R mask h0.next r (putE E x.c.dst v) h' (leftP x.w pend) (leftR x.w rd) ≠ .fail := by
    unfold drawN at hnf
    cases hq : again P (putE E x.c.dst v) h' (leftP x.w pend) (leftR x.w rd) with
    | false => rw [hq] at hnf; exact absurd rfl hnf
    | true => rw [hq] at hnf; exact ⟨rfl, hnf⟩
  obtain ⟨hagain, hnf2⟩ := hnf'
  have hag2 := again_ok hagain
  have hsub2 : ∀ s, inO s (drawL P R mask h0.next r (putE E x.c.dst v) h' (leftP x.w pend) (leftR x.w rd)) → inO s outs := by
    intro s hs
    refine hsub s ?_
    unfold drawN
    rw [hagain]; exact hs
  have hlsub : ∀ y, (y ∈ lag ∨ y ∈ r) → y.i ≠ x.i := by
    rintro y (q | q)
    · exact (hpair y (d.lagsub y q)).ne
    · exact (hrest y q).ne.symm
  refine ⟨by rw [d.split]; simp, fun y hy => List.mem_append_left _ (d.lagsub y hy), d.kinds, ?_, by simp [d.lsz], cl_set d.cl it.op hr, nx1.trans hn, ?_, ?_, ?_, ?_, ?_, ?_, ?_, ?_, ?_, ?_, ?_, ?_, ?_, leftP_nodup d.pnd, hnf2, hsub2⟩
  · intro i hi
    by_cases hix : x.i = i
    · subst hix
      constructor
      · intro hf
        rw [Array.getD_eq_getD_getElem?, Array.getElem?_setIfInBounds_self_of_lt (by rw [d.lsz]; exact hlt)] at hf
        cases hf
      · rintro ⟨y, q, he⟩
        exact absurd he (hlsub y q)
    · rw [getD_set_ne true hix, d.unl i hi]
      constructor
      · rintro ⟨y, q | q, he⟩
        · exact ⟨y, .inl q, he⟩
        · rcases List.mem_cons.1 q with q | q
          · subst q; exact absurd he hix
          · exact ⟨y, .inr q, he⟩
      · rintro ⟨y, q | q, he⟩
        · exact ⟨y, .inl q, he⟩
        · exact ⟨y, .inr (List.mem_cons_of_mem _ q), he⟩
  · have := d.hnext; have := hn.next; omega
  · intro k z hk'
    rw [putE_get] at hk'
    by_cases hxk : x.c.dst = some k
    · rw [if_pos hxk] at hk'
      cases hk'
      refine .inr ⟨u, ?_, hv⟩
      rw [hxk]; simp [Act.put, hdb k hxk]
    · rw [if_neg hxk] at hk'
      rcases d.env k z hk' with q | ⟨u0, hu0, hv0⟩
      · exact .inl q
      · refine .inr ⟨u0, ?_, hv0.mono hn.mu⟩
        cases hd : x.c.dst with
        | none => exact hu0
        | some t =>
          rw [hd] at hxk
          simp only [Act.put]
          rw [Array.getElem?_setIfInBounds_ne (by intro q; exact hxk (by rw [q]))]; exact hu0
  · intro k z hk'
    rw [putE_all] at hk'; exact d.hE k z hk'
  · rw [put_defers]
    exact (d.mks.of nx1.sr fun r _ hr => hr).next hn
  · rw [put_size]; exact d.asz
  · intro y hy
    have hyd := d.lagsub y hy
    have hyw := hnl y hy
    obtain ⟨b, hb, hcase⟩ := d.lagf y hy
    refine ⟨b, by rw [hwant y hyd hyw]; exact hb, ?_⟩
    rcases hcase with ⟨hbf, hd⟩ | ⟨hbt, z, hd, hkk⟩
    · exact .inl ⟨hbf, fun t ht => by rw [hdst y hyd hyw t ht]; exact hd t ht⟩
    · rcases hkk with ⟨k0, hr⟩ | ⟨k1, hm', hr⟩ | ⟨k2, hm', k, mk, g1, g2, g3⟩
      · exact .inr ⟨hbt, z, fun t ht => by rw [hdst y hyd hyw t ht]; exact hd t ht, .inl ⟨k0, fun h' => by rw [hrun y hyd hyw]; exact hr h'⟩⟩
      · obtain ⟨z', q1, q2⟩ := hag2 y (leftR_mem hm' hyw)
        exact .inr ⟨hbt, z', q2, .inr (.inl ⟨k1, leftR_mem hm' hyw, q1⟩)⟩
      · exact .inr ⟨hbt, z, fun t ht => by rw [hdst y hyd hyw t ht]; exact hd t ht, .inr (.inr ⟨k2, leftP_mem.2 ⟨hm', hyw⟩, k, mk, g1, g2, fun h' => by rw [hrun y hyd hyw]; exact g3 h'⟩)⟩
  · intro p hp
    obtain ⟨q1, _⟩ := leftP_mem.1 hp
    obtain ⟨g1, g2⟩ := d.pdn p q1
    exact ⟨List.mem_append_left _ g1, g2⟩
  · intro p hp hl
    obtain ⟨q1, q2⟩ := leftP_mem.1 hp
    rw [hwant p.1 (d.pdn p q1).1 q2]; exact d.pw p q1 hl
  · intro p hp hl
    obtain ⟨q1, q2⟩ := leftP_mem.1 hp
    exact (d.pf p q1 hl).next hn.mu (fun j hj hlt => hn.kept _ hlt (hheld' p q1 q2 j hj)) (hrun p.1 (d.pdn p q1).1 q2)
  · intro y hy
    have hyL : y ∈ L := d.mem (hy.imp id (List.mem_cons_of_mem _))
    rw [hn.old _ (hidlt y hyL)]
    exact d.free y (hy.imp id (List.mem_cons_of_mem _))
  · intro p hp i hi hh
    obtain ⟨q1, q2⟩ := leftP_mem.1 hp
    rw [hMold p q1] at hi
    have hnot := hheld' p q1 q2 i hi
    have hlt2 : i.blk < w.heap.size := by
      by_cases hpl : p.1 ∈ lag
      · have := d.free p.1 (.inl hpl)
        rw [(d.pdn p q1).2.1, this] at hi; cases hi
      · obtain ⟨_, _, ob', j', _, _, g3, _, g5, _⟩ := d.pf p q1 hpl
        rw [hi] at g5; cases g5
        exact (Array.getElem?_eq_some_iff.1 g3).1
    rcases hn.img _ hh with q | q
    · exact hnot q
    · omega
  · intro p hp q hq hne i j hi hj
    obtain ⟨p1, _⟩ := leftP_mem.1 hp
    obtain ⟨p2, _⟩ := leftP_mem.1 hq
    rw [hMold p p1] at hi
    rw [hMold q p2] at hj
    exact d.pdis p p1 q p2 hne i j hi hj
  · intro y hy b cs e g hg
    have hy' : (∃ id, (y, id) ∈ pend ∧ x.w.testBit y.i = false) ∨ y ∈ r := by
      rcases hy with ⟨id, q⟩ | q
      · obtain ⟨p1, p2⟩ := leftP_mem.1 q
        exact .inl ⟨id, p1, p2⟩
      · exact .inr q
    have hyL : y ∈ L := by
      rcases hy' with ⟨id, q, _⟩ | q
      · exact hpL _ q
      · exact d.mem (.inr (List.mem_cons_of_mem _ q))
    rcases hn.grp b cs e g hg with q | ⟨b0, cs0, e0, q⟩
    · have := hidlt y hyL; omega
    · rcases hgr b0 cs0 e0 g q with ⟨b1, cs1, e1, q⟩ | ⟨p, hp, hw, q⟩
      · refine d.gfree y ?_ b1 cs1 e1 g q
        rcases hy' with ⟨id, q, _⟩ | q
        · exact .inl ⟨id, q⟩
        · exact .inr (List.mem_cons_of_mem _ q)
      · rw [q, (d.pdn p hp).2.1]
        intro e
        have hpi : p.1.i = y.i := by omega
        have hpy := idx_inj pl (hpL p hp) hyL hpi
        rcases hy' with ⟨id, _, q⟩ | q
        · rw [hpi, q] at hw; cases hw
        · exact (d.pairs pl (d.pdn p hp).1 (List.mem_cons_of_mem _ q)).ne hpi
/-- an effect is carried out -/
theorem exec_eff (ok : CxOK P) {K : Kx} {n : Nat} (rc : RecOK P K n R) (cx0 : Ctx P K M0 h0 w0) (pl : PlanOK P ops L) (hbd : bndO sz ops.toList = true) {ρ : Option Nat} {k : Nat} {Q : Exit → Act → World → Prop}
    (d : DI P ops L R lo sz mask M0 h0 w0 outs listed dn lag (x :: r) E h pend rd M a w) (hk : 3 ≤ x.c.kind) (hready : x.i ∈ Region.ready .any ops listed) :
    wpOpIn (Wd ρ) k P.P ops Q x.i (fun a' w' => ∃ E' h' pend' rd' M', DI P ops L R lo sz mask M0 h0 w0 outs (listed.setIfInBounds x.i true) (dn ++ [x]) lag r E' h' pend' rd' M' a' w') a w := by
  obtain ⟨o, it⟩ := pl.item x (d.mem (.inr (by simp)))
  obtain ⟨_, o', ho', hall⟩ := mem_ready.1 hready
  rw [it.op] at ho'; cases ho'
  have hbits := it.w1 listed d.cl hall
  have hdst : x.c.dst = o.dst := by rw [it.c, compOp_dst]
  have hgd : x.c.guard = guardOf ops o := by rw [it.c, compOp_guard]
  have homem : o ∈ ops.toList := by simpa using Array.mem_of_getElem? it.op
  have hdb : ∀ t, x.c.dst = some t → t < a.tmps.size := fun t ht => by rw [d.asz]; exact bndO_dst hbd o homem t (by rw [← hdst]; exact ht)
  obtain ⟨E', hE'⟩ := env_without E (lag.filterMap (·.c.dst))
  have hag := d.agr pl (.inr (by simp)) hbits hE'
  have her := d.er hE'
  have hnf := d.nf
  have hsub := d.sub
  have hstep : drawL P R mask h0.next (x :: r) E h pend rd = drawStep P R h0.next x (drawL P R mask h0.next r) E h pend rd := rfl
  rw [hstep] at hnf hsub
  unfold drawStep at hnf hsub
  have hb3 : Nat.ble 3 x.c.kind = true := Nat.ble_eq_true_of_le hk
  cases hw : wantedE E x.c.guard with
  | none => rw [hw] at hnf; exact absurd rfl hnf
  | some b =>
    rw [hw] at hnf hsub
    simp only [hb3] at hnf hsub
    have hwb : Region.wanted o (yielded ops a.tmps) = b := wanted_ok her (by rw [← hgd, ← item_wanted it hag]; exact hw)
    unfold drawEff at hnf hsub
    cases hm : matP P E x.w pend h with
    | none => rw [hm] at hnf; exact absurd rfl hnf
    | some h1 =>
      rw [hm] at hnf hsub
      simp only at hnf hsub
      obtain ⟨nx1, hnx1, hheld, hgr⟩ := d.mat pl (fun p hp hw => d.notLag pl hbits hw) hm
      have go : ∀ {M' : Mu} {v u : Value} {h' : AH} {w' : World}, Nxt P M h1 w M' h' w' → VR M' v u → drawN P x (drawL P R mask h0.next r) (putE E x.c.dst v) h' pend rd ≠ .fail →
          (∀ s, inO s (drawN P x (drawL P R mask h0.next r) (putE E x.c.dst v) h' pend rd) → inO s outs) →
          ∃ E' h' pend' rd' M', DI P ops L R lo sz mask M0 h0 w0 outs (listed.setIfInBounds x.i true) (dn ++ [x]) lag r E' h' pend' rd' M' (a.put o.dst u) w' := by
        intro M' v u h' w' hn hv q1 q2
        rw [← hdst]
        exact ⟨_, _, _, _, _, d.eff pl hk it hall hdb hm hn hv q1 q2⟩
      unfold wpOpIn
      simp only [it.op, hwb]
      cases b with
      | false =>
        simp only [Bool.false_eq_true, if_false]
        exact ⟨fun _ _ => trivial, go (Nxt.refl nx1.sr) undef_ok hnf hsub⟩
      | true =>
        simp only [if_true]
        try simp only [bc_true] at hnf hsub
        cases hr : x.c.run P E h1 with
        | none => rw [hr] at hnf; exact absurd rfl hnf
        | some res =>
          rw [hr] at hnf hsub
          simp only at hnf hsub
          have hrun : (compOp P o (guardOf ops o)).run P E' h1 = some res := by rw [← it.c, ← item_run it hag]; exact hr
          have cx := cx0.next nx1
          refine op_wp ok rc cx nx1.sr hrun (op_ok ok cx.sm nx1.sr her hrun) ?_ ?_ ?_ ?_
          · rintro v h' M' u w' (rfl | ⟨l, rfl, hl⟩) hn hv
            · exact go hn hv hnf hsub
            · exact absurd rfl hnf
          · rintro h' M' w' rfl hn
            exact go hn undef_ok hnf hsub
          · rintro f args h' rfl
            obtain ⟨q1, q2⟩ := bind_ok (show (R.call f args h').bind (fun z => drawN P x (drawL P R mask h0.next r) (putE E x.c.dst z.1) z.2 pend rd) ≠ .fail from hnf)
            refine ⟨q1, fun z M' u w' hz hv hn => ?_⟩
            obtain ⟨q3, q4⟩ := q2 z hz
            have hcall : Nxt P M h1 w M' z.2 w' := hn
            exact go hcall hv q3 (fun s hs => hsub s (q4 s hs))
          · rintro l args h' rfl
            obtain ⟨q1, q2⟩ := bind_ok (show (R.yld l args h').bind (fun z => drawN P x (drawL P R mask h0.next r) (putE E x.c.dst z.1) z.2 pend rd) ≠ .fail from hnf)
            refine ⟨q1, fun z M' u w' hz hv hn => ?_⟩
            obtain ⟨q3, q4⟩ := q2 z hz
            have hcall : Nxt P M h1 w M' z.2 w' := hn
            exact go hcall hv q3 (fun s hs => hsub s (q4 s hs))
/-- if nothing is ready, all is listed -/
theorem ready_nil (pl : PlanOK P ops L) {listed : Array Bool} (hr : Region.ready .any ops listed = []) : ∀ i, i < ops.size → listed.getD i true = true := by
  intro i
  induction i using Nat.strongRecOn with
  | ind i ih =>
    intro hi
    cases hq : listed.getD i true with
    | true => rfl
    | false =>
      exfalso
      obtain ⟨x, hx, rfl⟩ := pl.all i hi
      obtain ⟨o, it⟩ := pl.item x hx
      have : x.i ∈ Region.ready .any ops listed := by
        refine mem_ready.2 ⟨hq, o, it.op, fun e he hb => ?_⟩
        have hlt := pl.low x hx e.on (it.w2 e he hb)
        have h1 := ih e.on hlt (by omega)
        rw [Array.getD_eq_getD_getElem?] at h1 hq ⊢
        cases hl : listed[e.on]? with
        | some b => rw [hl] at h1; simpa using h1
        | none =>
          have hsz : listed.size ≤ e.on := by simpa using hl
          have : listed[x.i]? = none := by simp; omega
          rw [this] at hq; cases hq
      rw [hr] at this; cases this
theorem draw_run (ok : CxOK P) {K : Kx} {n : Nat} (rc : RecOK P K n R) (cx0 : Ctx P K M0 h0 w0) (pl : PlanOK P ops L) (hbd : bndO sz ops.toList = true) {ρ : Option Nat} {k : Nat} {Mb : Mu} {hb : AH} {wb : World} (nb : Nxt P Mb hb wb M0 h0 w0) :
    ∀ (fuel : Nat) {listed : Array Bool} {dn lag rest : List PO} {E : Env} {h : AH} {pend : List (PO × Nat)} {rd : List PO} {M : Mu} {a : Act} {w : World},
      DI P ops L R lo sz mask M0 h0 w0 outs listed dn lag rest E h pend rd M a w → (lag ++ rest).length ≤ fuel → wpAnyIn (Wd ρ) k P.P .any ops (CPost P Mb hb wb lo sz mask outs) fuel listed a w := by
  -- at the end
  have fin : ∀ {listed : Array Bool} {dn : List PO} {E : Env} {h : AH} {pend : List (PO × Nat)} {rd : List PO} {M : Mu} {a : Act} {w : World},
      DI P ops L R lo sz mask M0 h0 w0 outs listed dn [] [] E h pend rd M a w → CPost P Mb hb wb lo sz mask outs .normal a w := by
    intro listed dn E h pend rd M a w d
    have hnf : drawEnd P mask E h pend ≠ .fail := d.nf
    have hsub : ∀ s, inO s (drawEnd P mask E h pend) → inO s outs := d.sub
    unfold drawEnd at hnf hsub
    cases hm : matP P E allW pend h with
    | none => rw [hm] at hnf; exact absurd rfl hnf
    | some h1 =>
      rw [hm] at hsub
      obtain ⟨nx1, _, _, _⟩ := d.mat pl (fun p _ _ q => by cases q) hm
      have her : ER M E a.tmps := fun k v hk => by
        rcases d.env k v hk with ⟨y, hy, _⟩ | q
        · cases hy
        · exact q
      exact ⟨_, M, hsub _ rfl, rfl, her.flush d.hE, nb.trans nx1, d.mks.of nx1.sr fun r _ hr => hr, d.asz⟩
  have empty : ∀ {listed : Array Bool} {dn lag rest : List PO} {E : Env} {h : AH} {pend : List (PO × Nat)} {rd : List PO} {M : Mu} {a : Act} {w : World},
      DI P ops L R lo sz mask M0 h0 w0 outs listed dn lag rest E h pend rd M a w → Region.ready .any ops listed = [] → lag = [] ∧ rest = [] := by
    intro listed dn lag rest E h pend rd M a w d hr
    have hall := ready_nil pl hr
    have no : ∀ y, ¬ (y ∈ lag ∨ y ∈ rest) := fun y hy => by
      have h1 := d.open_ pl hy
      obtain ⟨o, it⟩ := pl.item y (d.mem hy)
      rw [hall y.i (Array.getElem?_eq_some_iff.1 it.op).1] at h1; cases h1
    exact ⟨List.eq_nil_iff_forall_not_mem.2 fun y hy => no y (.inl hy), List.eq_nil_iff_forall_not_mem.2 fun y hy => no y (.inr hy)⟩
  intro fuel
  induction fuel with
  | zero =>
    intro listed dn lag rest E h pend rd M a w d hlen
    have h0 : lag ++ rest = [] := List.eq_nil_of_length_eq_zero (by omega)
    obtain ⟨rfl, rfl⟩ := List.append_eq_nil_iff.1 h0
    refine ⟨?_, fin d⟩
    refine List.eq_nil_iff_forall_not_mem.2 fun i hi => ?_
    obtain ⟨hu, o, ho, _⟩ := mem_ready.1 hi
    have hlt := (Array.getElem?_eq_some_iff.1 ho).1
    obtain ⟨y, q | q, _⟩ := (d.unl i hlt).1 hu <;> cases q
  | succ fuel ih =>
    intro listed dn lag rest E h pend rd M a w d hlen
    obtain ⟨dn', lag', rest', E', pend', rd', d', hl', hhead⟩ := d.norm pl
    clear d
    refine ⟨fun hr => ?_, fun i hi => ?_⟩
    · obtain ⟨rfl, rfl⟩ := empty d' hr
      exact fin d'
    · obtain ⟨hu, o, ho, hall⟩ := mem_ready.1 hi
      have hlt := (Array.getElem?_eq_some_iff.1 ho).1
      obtain ⟨x, hx, rfl⟩ := (d'.unl i hlt).1 hu
      rcases hx with hx | hx
      · refine wpOpIn_mono (fun a' w' ⟨M', d2⟩ => ih d2 ?_) (exec_lag ok cx0.sm pl hbd d' hx hi)
        have hlt2 : (lag'.filter fun y => y.i != x.i).length < lag'.length := by
          rw [List.length_filter_lt_length_iff_exists]
          exact ⟨x, hx, by simp⟩
        rw [List.length_append] at hl' hlen ⊢
        rw [List.length_append] at hl'
        omega
      · cases rest' with
        | nil => cases hx
        | cons z r =>
          have hk3 := hhead z r rfl
          have hxz : x = z := by
            rcases List.mem_cons.1 hx with q | q
            · exact q
            · exfalso
              have hp := pl.pair
              rw [d'.split, List.pairwise_append, List.pairwise_cons] at hp
              rcases (hp.2.1.1 x q).earlier with g | ⟨g, _⟩
              · obtain ⟨o2, it2⟩ := pl.item x (d'.mem (.inr hx))
                rw [it2.op] at ho; cases ho
                exact getD_two (it2.w1 listed d'.cl hall _ g) (d'.open_ pl (.inr (by simp)))
              · omega
          subst hxz
          refine wpOpIn_mono (fun a' w' ⟨E2, h2, p2, r2, M', d2⟩ => ih d2 ?_) (exec_eff ok rc cx0 pl hbd d' hk3 hi)
          rw [List.length_append, List.length_cons] at hl'
          rw [List.length_append] at hl' hlen ⊢
          omega
/-- a region that draws -/
theorem drawP_ok (ok : CxOK P) {K : Kx} {n : Nat} (rc : RecOK P K n R) (cxb : Ctx P K M0 h0 w0) (hbd : bndO sz ops.toList = true) {ρ : Option Nat} {k id : Nat} {T : Tr Value} (st : St P M h w lo sz mask T a) (nb : Nxt P M0 h0 w0 M h w)
    (hnf : drawP P R mask (planOf P ops) T h ≠ .fail) (hsub : ∀ s, inO s (drawP P R mask (planOf P ops) T h) → inO s outs) :
    (Code.region id ops true).wpIn (Wd ρ) k P.P (CPost P M0 h0 w0 lo sz mask outs) a w := by
  unfold drawP at hnf hsub
  cases hok : (planOf P ops).ok with
  | false => rw [hok] at hnf; exact absurd rfl hnf
  | true =>
    rw [hok] at hnf hsub
    obtain ⟨pl, hn⟩ := plan_ok hok
    refine wpIn_region_any ok.order ?_
    obtain ⟨w1, hw1⟩ : ∃ w1 : World, w1 = { w with drawn := w.drawn + 1 } := ⟨_, rfl⟩
    rw [← hw1]
    have n1 : Nxt P M h w M h w1 := nxt_same_heap st.sr (by rw [hw1]) (by rw [hw1]; exact ⟨rfl, rfl, rfl⟩)
    have n2 : Nxt P M h w1 M { h with next := h.next + ops.size } w1 := nxt_reserve n1.sr ops.size
    have hnone : ∀ b, h.next ≤ b → M b = none := st.sr.fresh
    refine draw_run ok rc ((cxb.next nb).next n1) pl hbd (nb.trans n1) ops.size (dn := []) (lag := []) (rest := (planOf P ops).l) (E := ⟨[], T⟩) (h := { h with next := h.next + ops.size }) (pend := []) (rd := []) (M := M) ?_ (by rw [List.nil_append, pl.len]; exact Nat.le_refl _)
    refine ⟨rfl, (fun x hx => by cases hx), (fun x hx => by cases hx), ?_, by simp, ?_, n2, Nat.le_refl _, ?_, st.tr.2, ?_, st.size, (fun x hx => by cases hx), (fun p hp => by cases hp), (fun p hp => by cases hp), (fun p hp => by cases hp), ?_, (fun p hp => by cases hp), (fun p hp => by cases hp), ?_, .nil, ?_, ?_⟩
    · intro i hi
      constructor
      · intro _
        obtain ⟨x, hx, he⟩ := pl.all i hi
        exact ⟨x, .inr hx, he⟩
      · intro _; simp [hi]
    · intro j o _ hj
      exfalso
      rw [Array.getD_eq_getD_getElem?] at hj
      simp only [Array.getElem?_replicate] at hj
      split at hj <;> cases hj
    · intro k v hk
      exact .inr (st.tr.1 k v hk)
    · exact (st.mks.next n1).next n2
    · intro x _
      exact hnone _ (Nat.le_add_right _ _)
    · intro x _ b cs e g hg e2
      have := n1.sr.ai b cs e g hg
      omega
    · rw [← hn]; exact hnf
    · rw [← hn]; exact hsub
end
end Go.Ev
