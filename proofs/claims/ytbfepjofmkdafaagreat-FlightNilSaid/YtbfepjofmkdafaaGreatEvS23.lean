/- Code (own work). -/
import Derived.Test.YtbfepjofmkdafaaGreatEvS22
namespace Go.Ev
variable {P : Cx} {M M' M0 : Mu} {h h' h0 : AH} {w w' w0 : World}

-- loops
theorem exists_least {p : Nat → Prop} (h : ∃ j, p j) : ∃ j, p j ∧ ∀ i, i < j → ¬ p i := by
  obtain ⟨j, hj⟩ := h
  induction j using Nat.strongRecOn with
  | ind j ih =>
    by_cases hl : ∃ i, i < j ∧ p i
    · obtain ⟨i, hi, hp⟩ := hl; exact ih i hi hp
    · exact ⟨j, hj, fun i hi hp => hl ⟨i, hi, hp⟩⟩
theorem LN_loop {F : Fence} {k : Nat} {p : Program} {b : Code} {Q : Exit → Act → World → Prop} {j : Nat} {a : Act} {w : World} (h : LN F k p b Q j a w) : (Code.loop b).wpIn F k p Q a w := by
  classical
  let μ : Act → World → Nat := fun a w => if h : ∃ j, LN F k p b Q j a w then Classical.choose (exists_least h) else 0
  have hμ : ∀ a w, (∃ j, LN F k p b Q j a w) → LN F k p b Q (μ a w) a w ∧ ∀ i, i < μ a w → ¬ LN F k p b Q i a w := by
    intro a w hex
    have : μ a w = Classical.choose (exists_least hex) := dif_pos hex
    rw [this]; exact Classical.choose_spec (exists_least hex)
  refine wpIn_loop (fun a w => ∃ j, LN F k p b Q j a w) μ ⟨j, h⟩ fun a w hI => ?_
  obtain ⟨h1, _⟩ := hμ a w hI
  cases hm : μ a w with
  | zero => rw [hm] at h1; exact h1.elim
  | succ i =>
    rw [hm] at h1
    refine wpIn_mono h1 fun e a' w' hq => ?_
    cases e with
    | normal =>
      refine ⟨⟨i, hq⟩, ?_⟩
      obtain ⟨_, g2⟩ := hμ a' w' ⟨i, hq⟩
      have : ¬ i < μ a' w' := fun hlt => g2 i hlt hq
      omega
    | _ => exact hq

-- moves of a loop over a function
theorem nxt_push {ob : Obj} (s : SR P M h w) (gw : Grew w w' ob) : Nxt P M h w M h w' :=
  { Nxt.refl s with
    sr := ⟨s.ai, fun b o hb => let ⟨i, hi, ho⟩ := s.obj b o hb; ⟨i, hi, ho.world (gw.old _ ho.lt)⟩, s.sep, s.fresh, s.lon⟩
    kept := fun x hx _ => gw.old x hx
    size := by rw [gw.size]; omega
    os := gw.os, tape := gw.tape, output := gw.output }
theorem turn_putObj {r : Nat} {o : Obj} : Turn w (w.putObj r o) r :=
  ⟨⟨rfl, rfl, rfl⟩, by simp, fun y hy => World.putObj_heap_other hy⟩
theorem nxt_del_turn {x : Nat} {o : AO} {i : Img} (s : SR P M h w) (hx : h.get x = some o) (hog : grpOf o = none) (hm : M x = some i) (tw : Turn w w' i.blk) :
    Nxt P M h w M (h.del x) w' ∧ ¬ Held M (h.del x) i.blk := by
  have n := nxt_del s x
  have hne : ∀ b o' j, (h.del x).get b = some o' → M b = some j → j.blk ≠ i.blk := by
    intro b o' j hb hj he
    rw [get_del] at hb
    by_cases hbx : b = x
    · rw [if_pos hbx] at hb; cases hb
    · rw [if_neg hbx] at hb
      rcases s.sep b x o' o j i hb hx hj hm he with q | ⟨g, _, q⟩
      · exact hbx q
      · rw [hog] at q; cases q
  refine ⟨{ n with
    sr := ⟨n.sr.ai, fun b o' hb => ?_, n.sr.sep, n.sr.fresh, n.sr.lon⟩
    kept := fun y _ hy => tw.old y (fun e => hy ⟨x, o, i, hx, hm, e.symm⟩)
    size := by rw [tw.size]; exact Nat.le_refl _
    os := tw.os, tape := tw.tape, output := tw.output }, ?_⟩
  · obtain ⟨j, hj, ho⟩ := n.sr.obj b o' hb
    exact ⟨j, hj, ho.world (tw.old _ (hne b o' j hb hj))⟩
  · rintro ⟨b, o', j, hb, hj, he⟩
    exact hne b o' j hb hj he
/-- a block of the world that stands for nothing now stands for something again -/
theorem nxt_readd {x : Nat} {o : AO} {i : Img} (nx : Nxt P M0 h0 w0 M h w) (hm : M x = some i) (hnh : ¬ Held M h i.blk) (hh0 : Held M0 h0 i.blk) (hog : grpOf o = none) (tw : Turn w w' i.blk) (ho : OR P M i w' o) :
    Nxt P M0 h0 w0 M (h.put x o) w' := by
  have hget := get_putO (h := h) x o hog
  have hne : ∀ b o', h.get b = some o' → b ≠ x := fun b o' hb e => hnh ⟨b, o', i, hb, by rw [e]; exact hm, rfl⟩
  have hlo : (h.put x o).lo ≤ h.lo ∧ (h.put x o).lo ≤ x := by simp only [AH.put, minN_eq]; omega
  have htr : ∀ b cs e g, (h.put x o).tr.get b = some (.cells cs e g) → h.tr.get b = some (.cells cs e g) := by
    intro b cs e g hb
    simp only [AH.put, Tr.get_put] at hb
    by_cases e1 : b = x
    · rw [if_pos e1] at hb; cases hb; cases hog
    · rw [if_neg e1] at hb; exact hb
  refine ⟨⟨fun b cs e g hb => nx.sr.ai b cs e g (htr b cs e g hb), ?_, ?_, nx.sr.fresh, Nat.le_trans hlo.1 nx.sr.lon⟩, nx.mu, nx.next, nx.old, ?_, ?_, by rw [tw.size]; exact nx.size, tw.os.trans nx.os, tw.tape.trans nx.tape, tw.output.trans nx.output,
    Nat.le_trans hlo.1 nx.lo, ?_, fun b cs e g hb => nx.grp b cs e g (htr b cs e g hb), fun b cs e g hb hn hg => Nat.le_trans hlo.1 (nx.gl b cs e g (htr b cs e g hb) hn hg), fun b cs e g hb hn => nx.gb b cs e g (htr b cs e g hb) hn⟩
  · intro b o' hb
    rw [hget] at hb
    by_cases e1 : b = x
    · rw [if_pos e1] at hb; cases hb; exact ⟨i, by rw [e1]; exact hm, ho⟩
    · rw [if_neg e1] at hb
      obtain ⟨j, hj, hoj⟩ := nx.sr.obj b o' hb
      exact ⟨j, hj, hoj.world (tw.old _ (fun e => hnh ⟨b, o', j, hb, hj, e⟩))⟩
  · intro b b' o1 o2 i1 i2 h1 h2 m1 m2 he
    rw [hget] at h1 h2
    by_cases e1 : b = x
    · by_cases e2 : b' = x
      · exact .inl (e1.trans e2.symm)
      · rw [if_neg e2] at h2
        rw [e1, hm] at m1; cases m1
        exact absurd ⟨b', o2, i2, h2, m2, he.symm⟩ hnh
    · rw [if_neg e1] at h1
      by_cases e2 : b' = x
      · rw [e2, hm] at m2; cases m2
        exact absurd ⟨b, o1, i1, h1, m1, he⟩ hnh
      · rw [if_neg e2] at h2; exact nx.sr.sep b b' o1 o2 i1 i2 h1 h2 m1 m2 he
  · rintro y ⟨b, o', j, hb, hj, hy⟩
    rw [hget] at hb
    by_cases e1 : b = x
    · rw [e1, hm] at hj; cases hj; rw [← hy]; exact .inl hh0
    · rw [if_neg e1] at hb; exact nx.img y ⟨b, o', j, hb, hj, hy⟩
  · intro y hy hn
    rw [tw.old y (fun e => hn (by rw [e]; exact hh0))]; exact nx.kept y hy hn
  · intro b hb hbn
    rw [hget, if_neg (by omega)]; exact nx.fp b (by omega) hbn
/-- a block that stands for nothing is another -/
theorem nxt_unheld {r : Nat} (nx : Nxt P M0 h0 w0 M h w) (hr : w0.heap.size ≤ r) (hnh : ¬ Held M h r) (tw : Turn w w' r) : Nxt P M0 h0 w0 M h w' :=
  { nx with
    sr := ⟨nx.sr.ai, fun b o hb => let ⟨i, hi, ho⟩ := nx.sr.obj b o hb; ⟨i, hi, ho.world (tw.old _ (fun e => hnh ⟨b, o, i, hb, hi, e⟩))⟩, nx.sr.sep, nx.sr.fresh, nx.sr.lon⟩
    kept := fun y hy hn => by rw [tw.old y (by omega)]; exact nx.kept y hy hn
    size := by rw [tw.size]; exact nx.size
    os := tw.os.trans nx.os, tape := tw.tape.trans nx.tape, output := tw.output.trans nx.output }
theorem compC_seq (x y : Code) (R : Rec) (mask : Nat) (T : Tr Value) (h : AH) : (compC (.seq x y)).run P R mask T h = ((compC x).run P R mask T h).bind (afterSeq P R mask (compC y)) := rfl
theorem compC_cond (o : Operand) (x y : Code) : compC (.cond o x y) = ⟨runCond o (compC x) (compC y)⟩ := rfl
theorem compC_block (id : Nat) (x : Code) (R : Rec) (mask : Nat) (T : Tr Value) (h : AH) : (compC (.block id x)).run P R mask T h = ((compC x).run P R mask T h).bind (afterBlock id) := rfl
theorem compC_loop (x : Code) (R : Rec) (mask : Nat) (T : Tr Value) (h : AH) : (compC (.loop x)).run P R mask T h = ((compC x).run P R mask T h).bind (afterLoop R mask (.loop x)) := rfl
theorem bndO_mono {n m : Nat} (hnm : n ≤ m) : ∀ {l : List Oper}, bndO n l = true → bndO m l = true := by
  intro l
  induction l with
  | nil => intro _; rfl
  | cons o r ih =>
    intro h
    obtain ⟨h1, h2⟩ := bc_and (show bc (match o.dst with | some d => Nat.blt d n | none => true) (bndO n r) false = true from h)
    show bc (match o.dst with | some d => Nat.blt d m | none => true) (bndO m r) false = true
    have h3 : (match o.dst with | some d => Nat.blt d m | none => true) = true := by
      cases hd : o.dst with
      | none => rfl
      | some d => rw [hd] at h1; have h5 : d < n := bltN h1; exact Nat.ble_eq_true_of_le (Nat.lt_of_lt_of_le h5 hnm)
    rw [h3, ih h2]
theorem bndT_mono {n m : Nat} (hnm : n ≤ m) : ∀ {l : List Nat}, bndT n l = true → bndT m l = true := by
  intro l
  induction l with
  | nil => intro _; rfl
  | cons o r ih =>
    intro h
    obtain ⟨h1, h2⟩ := bc_and (show bc (Nat.blt o n) (bndT n r) false = true from h)
    show bc (Nat.blt o m) (bndT m r) false = true
    have h3 : Nat.blt o m = true := by have := bltN h1; exact Nat.ble_eq_true_of_le (by show o + 1 ≤ m; omega)
    rw [h3, ih h2]
theorem bc_and_intro {a b : Bool} (ha : a = true) (hb : b = true) : bc a b false = true := by rw [ha, hb]
theorem bndC_mono {n m : Nat} (hnm : n ≤ m) : ∀ {c : Code}, bndC n c = true → bndC m c = true := by
  intro c
  induction c with
  | seq a b iha ihb => intro h; obtain ⟨h1, h2⟩ := bc_and (show bc (bndC n a) (bndC n b) false = true from h); exact bc_and_intro (iha h1) (ihb h2)
  | cond x a b iha ihb => intro h; obtain ⟨h1, h2⟩ := bc_and (show bc (bndC n a) (bndC n b) false = true from h); exact bc_and_intro (iha h1) (ihb h2)
  | block id b ih => intro h; exact ih h
  | scope b ih => intro h; exact ih h
  | loop b ih => intro h; exact ih h
  | rangeFunc f ps a b iha ihb =>
    intro h
    obtain ⟨h1, h2⟩ := bc_and (show bc (bndT n ps.toList) (bc (bc (bndC n a) (noRF a) false) (bc (bndC n b) (noRF b) false) false) false = true from h)
    obtain ⟨h3, h4⟩ := bc_and h2
    obtain ⟨h5, h6⟩ := bc_and h3
    obtain ⟨h7, h8⟩ := bc_and h4
    exact bc_and_intro (bndT_mono hnm h1) (bc_and_intro (bc_and_intro (iha h5) h6) (bc_and_intro (ihb h7) h8))
  | region id ops draw => intro h; exact bndO_mono hnm h
  | _ => intro _; rfl

section
variable {K : Kx} {R : Rec} {n : Nat} {ρ : Option Nat} {k lo sz mask : Nat} {T : Tr Value} {a a' : Act} {outs : Out}
theorem St.of (nx : Nxt P M0 h0 w0 M h w) (hlo : lo ≤ w0.heap.size) (htr : TRm M mask T a.tmps) (hmk : Marks M h w lo a.defers) (hs : a.tmps.size = sz) : St P M h w lo sz mask T a :=
  ⟨nx.sr, htr, hmk, hs, Nat.le_trans hlo nx.size⟩
/-- code, by what the evaluator makes of it -/
def CodeOK (P : Cx) (K : Kx) (R : Rec) (ρ : Option Nat) (k : Nat) (c : Code) : Prop :=
  ∀ {lo sz mask : Nat} {T : Tr Value} {h : AH} {M : Mu} {w : World} {a : Act} {M0 : Mu} {h0 : AH} {w0 : World} {outs : Out}, bndC sz c = true → (ρ = none ∨ noRF c = true) → lo ≤ w0.heap.size →
    St P M h w lo sz mask T a → Ctx P K M0 h0 w0 → Nxt P M0 h0 w0 M h w → (compC c).run P R mask T h ≠ .fail → (∀ s, inO s ((compC c).run P R mask T h) → inO s outs) → c.wpIn (Wd ρ) k P.P (CPost P M0 h0 w0 lo sz mask outs) a w
/-- one round of a loop, then so many more -/
theorem loop_round (rc : RecOK P K n R) {b : Code} (ih : CodeOK P K R ρ k b) (hb : bndC sz b = true) (hρ : ρ = none ∨ noRF b = true) (hlo : lo ≤ w0.heap.size) (st : St P M h w lo sz mask T a) (cx : Ctx P K M0 h0 w0) (nx : Nxt P M0 h0 w0 M h w)
    (hnf : (compC (.loop b)).run P R mask T h ≠ .fail) (hsub : ∀ s, inO s ((compC (.loop b)).run P R mask T h) → inO s outs) : LN (Wd ρ) k P.P b (CPost P M0 h0 w0 lo sz mask outs) (n + 1) a w := by
  rw [compC_loop] at hnf hsub
  obtain ⟨q1, q2⟩ := bind_ok hnf
  show b.wpIn (Wd ρ) k P.P (Exit.then (fun a' w' => LN (Wd ρ) k P.P b (CPost P M0 h0 w0 lo sz mask outs) n a' w') (CPost P M0 h0 w0 lo sz mask outs)) a w
  refine wpIn_mono (ih hb hρ hlo st cx nx q1 (fun s hs => hs)) ?_
  rintro e a' w' ⟨s, M', hs, rfl, htr, hn, hmk, hsz⟩
  obtain ⟨q3, q4⟩ := q2 s hs
  obtain ⟨se, sT, sh⟩ := s
  cases se with
  | normal => exact rc.loop b ρ k mask lo sz sT sh h0 M' M0 w' w0 a' outs hlo hb hρ (St.of hn hlo htr hmk hsz) cx hn q3 (fun s hs => hsub s (q4 s hs))
  | exit id => exact ⟨_, M', hsub _ (q4 _ rfl), rfl, htr, hn, hmk, hsz⟩
  | ret => exact ⟨_, M', hsub _ (q4 _ rfl), rfl, htr, hn, hmk, hsz⟩
theorem range_ok (ok : CxOK P) (rc : RecOK P K n R) {f : Operand} {ps : Array Tmp} {as bd : Code} (hb : bndC sz (.rangeFunc f ps as bd) = true) (hlo : lo ≤ w0.heap.size) (st : St P M h w lo sz mask T a) (cx : Ctx P K M0 h0 w0) (nx : Nxt P M0 h0 w0 M h w)
    (hnf : cRange P f ps as bd R mask T h ≠ .fail) (hsub : ∀ s, inO s (cRange P f ps as bd R mask T h) → inO s outs) :
    (Code.rangeFunc f ps as bd).wpIn (Wd none) k P.P (CPost P M0 h0 w0 lo sz mask outs) a w := by
  obtain ⟨b1, b2⟩ := bc_and (show bc (bndT sz ps.toList) (bc (bc (bndC sz as) (noRF as) false) (bc (bndC sz bd) (noRF bd) false) false) false = true from hb)
  obtain ⟨b3, b4⟩ := bc_and b2
  obtain ⟨b5, b6⟩ := bc_and b3
  obtain ⟨b7, b8⟩ := bc_and b4
  unfold cRange at hnf hsub
  cases hf : evalO ⟨[], T⟩ f with
  | none => rw [hf] at hnf; exact absurd rfl hnf
  | some fv =>
    rw [hf] at hnf hsub
    have hfv := evalO_ok (a := a) (ER.of_tr st.tr.1) hf
    generalize hev : a.eval f = fu at hfv
    cases hfv with
    | func g l1 l1' l2 l2' ha hc =>
      simp only at hnf hsub
      cases hbody : hasBody P g with
      | false => rw [hbody] at hnf; exact absurd rfl hnf
      | true =>
        rw [hbody] at hnf hsub
        obtain ⟨q1, q2⟩ := bind_ok (show ((R.call g (appL l1 (.func (.yield h.next) #[] #[] :: l2)) (h.newObj (.loop T ps.toList as bd mask .normal))).bind (afterRange h.next T)) ≠ .fail from hnf)
        obtain ⟨_, _, _, _, hcf⟩ := hasBody_ok ok hbody
        refine wpIn_rangeFunc fun fn _ => ?_
        -- the record is laid
        obtain ⟨rec, hrec⟩ : ∃ rec : Loop, rec = { state := .ready, pending := none, fn, tmps := a.tmps, params := ps, assign := as, body := bd, defers := w.heap.size } := ⟨_, rfl⟩
        obtain ⟨wa, hwa⟩ : ∃ wa : World, wa = w.alloc (.deferred (some [])) := ⟨_, rfl⟩
        obtain ⟨w1, hw1⟩ : ∃ w1 : World, w1 = wa.alloc (.loop rec) := ⟨_, rfl⟩
        have ga : Grew w wa (.deferred (some [])) := by rw [hwa]; exact ⟨⟨rfl, rfl, rfl⟩, rfl⟩
        have g1 : Grew wa w1 (.loop rec) := by rw [hw1]; exact ⟨⟨rfl, rfl, rfl⟩, rfl⟩
        have hsz : wa.heap.size = w.heap.size + 1 := ga.size
        have na : Nxt P M h w M h wa := nxt_push st.sr ga
        have hid := st.sr.fresh h.next (Nat.le_refl _)
        obtain ⟨M1, hM1⟩ : ∃ M1 : Mu, M1 = M.set h.next ⟨wa.heap.size, 0, 0, 0, undef⟩ := ⟨_, rfl⟩
        have hM1l : M1 h.next = some ⟨wa.heap.size, 0, 0, 0, undef⟩ := by rw [hM1, Mu.set_same]
        have hle : M.le M1 := by rw [hM1]; exact Mu.le_set _ hid
        have n1 : Nxt P M h wa M1 (h.newObj (.loop T ps.toList as bd mask .normal)) w1 := by
          rw [hM1]
          refine nxt_obj 0 0 na.sr rfl g1 ⟨rec, g1.new, by rw [hrec], by rw [hrec], by rw [hrec], ?_, by rw [hrec]; rfl, st.tr.2, sz, ?_, b1, b5, b7, b6, b8⟩
          · rw [hrec, ← hM1]; exact (st.tr.1).mono hle
          · rw [hrec]; simp only; rw [st.size]; exact Nat.le_refl _
        have n01 := na.trans n1
        refine ⟨w.heap.size + 1, [{ target := .collected w.heap.size, args := #[] }], w1, { target := .fn (.func g) ⟨l2'⟩, args := (⟨l1'⟩ : Array Value) ++ #[Value.func (Fn.yield (w.heap.size + 1)) #[] #[]] }, w1, g,
          (⟨l1'⟩ : Array Value) ++ #[Value.func (Fn.yield (w.heap.size + 1)) #[] #[]] ++ (⟨l2'⟩ : Array Value), w1, ?_, ?_, fun _ _ => trivial, ?_, Wd_depth, ?_⟩
        · have := run_enterLoop_outer (P := P.P) (w := w) fn a.tmps ps as bd
          rw [show (Wd none).round = none from rfl, this, hw1, hwa, hrec]
        · have hyv : a.eval (.const (.func (.yield (w.heap.size + 1)) #[] #[])) = Value.func (.yield (w.heap.size + 1)) #[] #[] := rfl
          simp only [resolve, hev, Deferred.ofValue, List.map_toArray, List.map_cons, List.map_nil, hyv, Sem.run_pure]
        · simp only [invoke, hcf]
        · have hargs : VRs M1 (appL l1 (.func (.yield h.next) #[] #[] :: l2)) ((⟨l1'⟩ : Array Value) ++ #[Value.func (Fn.yield (w.heap.size + 1)) #[] #[]] ++ (⟨l2'⟩ : Array Value)).toList := by
            rw [appL_eq]
            have : ((⟨l1'⟩ : Array Value) ++ #[Value.func (Fn.yield (w.heap.size + 1)) #[] #[]] ++ (⟨l2'⟩ : Array Value)).toList = l1' ++ (Value.func (Fn.yield (w.heap.size + 1)) #[] #[] :: l2') := by simp
            rw [this]
            refine (ha.mono hle).app (.cons _ _ _ _ ?_ (hc.mono hle))
            have := VR.yield (M := M1) h.next _ hM1l
            rw [hsz] at this; exact this
          refine (show CallsIn (Wd none) (k - 1) P.P g _ w1 _ from (rc.call g _ _ M1 w1 _ (k - 1) n01.sr ((cx.next nx).next n01) hargs q1).mono ?_)
          rintro e w3 ⟨x, M3, u, rfl, hx, _, hn3⟩
          obtain ⟨q3, q4⟩ := q2 x hx
          unfold afterRange at q3 q4
          cases hg : x.2.get h.next with
          | none => rw [hg] at q3; exact absurd rfl q3
          | some ao =>
            rw [hg] at q3 q4
            cases ao with
            | loop T' ps' as' bd' m' e' =>
              simp only at q3 q4
              obtain ⟨i3, hi3, ho3⟩ := hn3.sr.obj _ _ hg
              have hi3' := hn3.mu _ _ hM1l
              rw [hi3] at hi3'
              simp only [Option.some.injEq] at hi3'
              subst hi3'
              obtain ⟨r3, p1, p2, p3, p4, p5, p6, p7⟩ := ho3
              simp only at p1
              rw [hsz] at p1
              have hstate : r3.state ≠ .busy ∧ r3.pending = (pend e').2 := by
                have h1 : r3.state = (pend e').1 := congrArg Prod.fst p6
                have h2 : r3.pending = (pend e').2 := congrArg Prod.snd p6
                refine ⟨?_, h2⟩
                rw [h1]; cases e' <;> simp [pend]
              have hend := run_endLoop (P := P.P) p1 hstate.1
              obtain ⟨n4, _⟩ := nxt_del_turn hn3.sr hg rfl hi3 (w' := w3.putObj (w.heap.size + 1) (.loop { r3 with state := .exhausted })) (by simp only [hsz]; exact turn_putObj)
              have nAll := (n01.trans hn3).trans n4
              refine ⟨r3.pending, _, hend, ?_⟩
              -- the mark
              have hmark : Marks M3 (x.2.del h.next) (w3.putObj (w.heap.size + 1) (.loop { r3 with state := .exhausted })) lo ({ target := .collected w.heap.size, args := #[] } :: a.defers) := by
                obtain ⟨rs, e1, e2, e3⟩ := st.mks.next nAll
                have hr0 : (w3.putObj (w.heap.size + 1) (.loop { r3 with state := .exhausted })).heap[w.heap.size]? = some (.deferred (some [])) := by
                  rw [World.putObj_heap_other (by omega)]
                  have h1 : w1.heap[w.heap.size]? = some (.deferred (some [])) := by rw [g1.old _ (by omega)]; exact ga.new
                  rw [hn3.kept _ (by rw [g1.size]; omega) (held_not_deferred n01.sr h1)]; exact h1
                refine ⟨w.heap.size :: rs, by rw [List.map_cons, e1], List.nodup_cons.2 ⟨fun hm => ?_, e2⟩, fun r hr => ?_⟩
                · obtain ⟨rs0, f1, _, f3⟩ := st.mks
                  have hrs : rs0 = rs := by
                    have := f1.symm.trans e1
                    exact List.map_inj_right (fun _ _ h => by simpa using h) |>.1 this
                  rw [← hrs] at hm
                  have := (Array.getElem?_eq_some_iff.1 (f3 _ hm).2.1).1
                  omega
                · rcases List.mem_cons.1 hr with q | q
                  · subst q; exact ⟨st.lo, hr0, held_not_deferred nAll.sr hr0⟩
                  · exact e3 r q
              have hpost : ∀ s, s = (⟨e', T, x.2.del h.next⟩ : S) → CPost P M0 h0 w0 lo sz mask outs (exOf e') { a with defers := { target := .collected w.heap.size, args := #[] } :: a.defers } (w3.putObj (w.heap.size + 1) (.loop { r3 with state := .exhausted })) := by
                intro s hs
                exact ⟨s, M3, hsub s (q4 s hs), by rw [hs], by rw [hs]; exact ⟨st.tr.1.mono nAll.mu, st.tr.2⟩, by rw [hs]; exact nx.trans nAll, by rw [hs]; exact hmark, st.size⟩
              generalize w3.putObj (w.heap.size + 1) (.loop { r3 with state := .exhausted }) = w4 at hpost ⊢
              rw [hstate.2]
              cases e' with
              | normal => exact hpost _ rfl
              | exit id => exact wpIn_exit (hpost _ rfl)
              | ret => exact wpIn_ret (hpost _ rfl)
            | _ => exact absurd rfl q3
    | _ => exact absurd rfl hnf
theorem code_ok (ok : CxOK P) (rc : RecOK P K n R) : ∀ c, CodeOK P K R ρ k c := by
  intro c
  induction c with
  | skip =>
    intro lo sz mask T h M w a M0 h0 w0 outs _ _ _ st _ nx _ hsub
    exact wpIn_skip ⟨_, M, hsub _ rfl, rfl, st.tr, nx, st.mks, st.size⟩
  | label l =>
    intro lo sz mask T h M w a M0 h0 w0 outs _ _ _ st _ nx _ hsub
    exact wpIn_label ⟨_, M, hsub _ rfl, rfl, st.tr, nx, st.mks, st.size⟩
  | ret =>
    intro lo sz mask T h M w a M0 h0 w0 outs _ _ _ st _ nx _ hsub
    exact wpIn_ret ⟨_, M, hsub _ rfl, rfl, st.tr, nx, st.mks, st.size⟩
  | exit id =>
    intro lo sz mask T h M w a M0 h0 w0 outs _ _ _ st _ nx _ hsub
    exact wpIn_exit ⟨_, M, hsub _ rfl, rfl, st.tr, nx, st.mks, st.size⟩
  | seq x y ihx ihy =>
    intro lo sz mask T h M w a M0 h0 w0 outs hb hρ hlo st cx nx hnf hsub
    obtain ⟨b1, b2⟩ := bc_and (show bc (bndC sz x) (bndC sz y) false = true from hb)
    have hρx : ρ = none ∨ noRF x = true := hρ.imp id fun q => (bc_and (show bc (noRF x) (noRF y) false = true from q)).1
    have hρy : ρ = none ∨ noRF y = true := hρ.imp id fun q => (bc_and (show bc (noRF x) (noRF y) false = true from q)).2
    rw [compC_seq] at hnf hsub
    obtain ⟨q1, q2⟩ := bind_ok hnf
    refine wpIn_seq (wpIn_mono (ihx b1 hρx hlo st cx nx q1 (fun s hs => hs)) ?_)
    rintro e a' w' ⟨s, M', hs, rfl, htr, hn, hmk, hsz⟩
    obtain ⟨q3, q4⟩ := q2 s hs
    obtain ⟨se, sT, sh⟩ := s
    cases se with
    | normal => exact ihy b2 hρy hlo (St.of hn hlo htr hmk hsz) cx hn q3 (fun s hs => hsub s (q4 s hs))
    | exit id => exact ⟨_, M', hsub _ (q4 _ rfl), rfl, htr, hn, hmk, hsz⟩
    | ret => exact ⟨_, M', hsub _ (q4 _ rfl), rfl, htr, hn, hmk, hsz⟩
  | cond o x y ihx ihy =>
    intro lo sz mask T h M w a M0 h0 w0 outs hb hρ hlo st cx nx hnf hsub
    obtain ⟨b1, b2⟩ := bc_and (show bc (bndC sz x) (bndC sz y) false = true from hb)
    have hρx : ρ = none ∨ noRF x = true := hρ.imp id fun q => (bc_and (show bc (noRF x) (noRF y) false = true from q)).1
    have hρy : ρ = none ∨ noRF y = true := hρ.imp id fun q => (bc_and (show bc (noRF x) (noRF y) false = true from q)).2
    rw [compC_cond] at hnf hsub
    have hrun : ∀ s, inO s (runCond o (compC x) (compC y) P R mask T h) → inO s outs := hsub
    have hnf' : runCond o (compC x) (compC y) P R mask T h ≠ .fail := hnf
    unfold runCond at hnf' hrun
    cases ho : evalO ⟨[], T⟩ o with
    | none => rw [ho] at hnf'; exact absurd rfl hnf'
    | some v =>
      rw [ho] at hnf' hrun
      have hv := evalO_ok (a := a) (ER.of_tr st.tr.1) ho
      cases v with
      | bool t =>
        cases t with
        | true => exact wpIn_cond_true hv.bool_inv (ihx b1 hρx hlo st cx nx hnf' hrun)
        | false => exact wpIn_cond_false hv.bool_inv (ihy b2 hρy hlo st cx nx hnf' hrun)
      | _ => exact absurd rfl hnf'
  | block id x ih =>
    intro lo sz mask T h M w a M0 h0 w0 outs hb hρ hlo st cx nx hnf hsub
    rw [compC_block] at hnf hsub
    obtain ⟨q1, q2⟩ := bind_ok hnf
    refine wpIn_block (wpIn_mono (ih hb hρ hlo st cx nx q1 (fun s hs => hs)) ?_)
    rintro e a' w' ⟨s, M', hs, rfl, htr, hn, hmk, hsz⟩
    obtain ⟨q3, q4⟩ := q2 s hs
    obtain ⟨se, sT, sh⟩ := s
    cases se with
    | normal => exact ⟨_, M', hsub _ (q4 _ rfl), rfl, htr, hn, hmk, hsz⟩
    | ret => exact ⟨_, M', hsub _ (q4 _ rfl), rfl, htr, hn, hmk, hsz⟩
    | exit id' =>
      show (if id' = id then _ else _)
      by_cases hid : id' = id
      · rw [if_pos hid]
        refine ⟨⟨.normal, sT, sh⟩, M', hsub _ (q4 _ ?_), rfl, htr, hn, hmk, hsz⟩
        show _ = (⟨bc (Nat.beq id' id) .normal (.exit id'), sT, sh⟩ : S)
        rw [hid, show Nat.beq id id = true from Nat.beq_refl id]
      · rw [if_neg hid]
        refine ⟨⟨.exit id', sT, sh⟩, M', hsub _ (q4 _ ?_), rfl, htr, hn, hmk, hsz⟩
        show _ = (⟨bc (Nat.beq id' id) .normal (.exit id'), sT, sh⟩ : S)
        have : Nat.beq id' id = false := by
          cases hq : Nat.beq id' id with
          | false => rfl
          | true => exact absurd (beqN hq) hid
        rw [this]
  | loop x ih =>
    intro lo sz mask T h M w a M0 h0 w0 outs hb hρ hlo st cx nx hnf hsub
    exact LN_loop (loop_round rc ih hb hρ hlo st cx nx hnf hsub)
  | rangeFunc f ps as bd _ _ =>
    intro lo sz mask T h M w a M0 h0 w0 outs hb hρ hlo st cx nx hnf hsub
    rcases hρ with rfl | q
    · exact range_ok ok rc hb hlo st cx nx hnf hsub
    · cases q
  | region id ops draw =>
    intro lo sz mask T h M w a M0 h0 w0 outs hb hρ hlo st cx nx hnf hsub
    cases draw with
    | true => exact drawP_ok ok rc cx hb st nx hnf hsub
    | false =>
      refine wpIn_region ?_
      have := opsL_ok ok rc (ρ := ρ) (k := k) (lo := lo) (mask := mask) (outs := outs) cx hb ops.size 0 ⟨[], T⟩ M h w a (by omega) st.sr (ER.of_tr st.tr.1) st.tr.2 st.mks st.size nx (by rw [List.drop_zero]; exact hnf) (by rw [List.drop_zero]; exact hsub)
      rw [List.range_eq_range']; exact this
  | _ =>
    intro lo sz mask T h M w a M0 h0 w0 outs _ _ _ _ _ _ hnf _
    exact absurd rfl hnf
end
end Go.Ev
