/- Conversions, iterators, calls of values (own work). -/
import Derived.Test.YtbfepjofmkdafaaGreatEvS14
namespace Go.Ev
variable {P : Cx} {M : Mu} {h h' : AH} {w w' : World}

theorem cellsBytes_ok : ∀ {l : List Value} {bs : List UInt8}, cellsBytes l = some bs → ∃ ns : List Int, l = ns.map (Value.int .u8) ∧ bs = ns.map fun n => UInt8.ofNat n.toNat := by
  intro l
  induction l with
  | nil => intro bs h; cases h; exact ⟨[], rfl, rfl⟩
  | cons v r ih =>
    intro bs h
    unfold cellsBytes at h
    split at h
    · rename_i heq; cases heq
    · rename_i n r' heq
      cases heq
      split at h
      · rename_i l hl
        simp only [Option.some.injEq] at h; subst h
        obtain ⟨ns, h1, h2⟩ := ih hl
        exact ⟨n :: ns, by simp [h1], by simp [h2]⟩
      · cases h
    · cases h
theorem foldl_push (ns : List Int) : ∀ r : ByteArray, (ns.foldl (fun (r : ByteArray) n => r.push (UInt8.ofNat n.toNat)) r).data.toList = r.data.toList ++ ns.map fun n => UInt8.ofNat n.toNat := by
  induction ns with
  | nil => intro r; simp
  | cons n ns ih => intro r; rw [List.foldl_cons, ih]; simp
theorem closed_ints {ns : List Int} {l' : List Value} (hl : VRs M (ns.map (Value.int .u8)) l') : l' = ns.map (Value.int .u8) := by
  induction ns generalizing l' with
  | nil => cases hl; rfl
  | cons n ns ih =>
    cases hl with
    | cons _ v' _ r' h1 h2 => rw [List.map_cons, h1.int_inv, ih h2]
theorem convClosed_ok {src dst : TypeId} {x x' : Value} {r : R1} (hx : VR M x x') (hr : convClosed P h src dst x = some r) : BSame M h w r ((convert src dst x').run P.P w) := by
  obtain ⟨hc, hp⟩ := bc_some hr
  split at hp
  · rename_i v hv
    obtain ⟨h1, h2⟩ := prunV_ok hv
    have := closed_eq 3 hc hx
    subst this
    rw [one_some hp]
    exact ⟨_, _, rfl, h1 w, h2⟩
  · cases hp
theorem run_freeze {p : Program} (a : Addr) (n : Nat) (w : World) : (freeze a n).run p w = .ok () (w.freeze a n) := rfl
theorem bytesStr_ok (ok : CxOK P) {src dst e : TypeId} {x x' : Value} {r : R1} (hx : VR M x x') (s : SR P M h w) (hs : desc P src = some (.slice e)) (hd : desc P dst = some .string)
    (hr : bytesStr P h e x = some r) : BSame M h w r ((convert src dst x').run P.P w) := by
  unfold bytesStr at hr
  split at hr
  · rename_i he
    split at hr
    · cases hx
      rw [one_some hr]
      refine ⟨_, _, rfl, ?_, .string _⟩
      rw [run_convert_bytes_string w src dst e none 0 0 (desc_of ok hs) (desc_of ok he) (desc_of ok hd)]
      rfl
    · rename_i a n c
      obtain ⟨ab, ao, as⟩ := a
      cases hx with
      | slice _ _ _ _ i off' c' hm hoff hl hc hex hroom =>
        rw [bc_eq] at hr
        have key : ∀ (ns : List Int), (loadCells ⟨i.blk, off', none⟩ n).run P.P w = .ok (ns.map (Value.int .u8)).toArray w →
            (convert src dst (.slice (some ⟨i.blk, off', none⟩) n c')).run P.P w = .ok (.string ⟨⟨ns.map fun n => UInt8.ofNat n.toNat⟩⟩) w := by
          intro ns hns
          rw [run_convert_bytes_string w src dst e _ n c' (desc_of ok hs) (desc_of ok he) (desc_of ok hd), run_bytesToString w _ n c' ns hns]
          congr 2
          apply ByteArray.ext
          apply Array.ext'
          rw [foldl_push]
          rfl
        split at hr
        · rename_i hz
          have hz' : n = 0 := beqN hz
          subst hz'
          rw [one_some hr]
          exact ⟨_, _, rfl, key [] rfl, .string _⟩
        · rename_i hz
          have hz' : n ≠ 0 := fun q => hz (by rw [q]; rfl)
          split at hr
          · rename_i l hl
            split at hr
            · rename_i bs hbs
              rw [one_some hr]
              obtain ⟨ns, h1, h2⟩ := cellsBytes_ok hbs
              obtain ⟨j, l', hj, g1, g2⟩ := loadN_ok s hl
              rw [hm] at hj
              have hji : i = j := by cases hj; rfl
              subst hji
              have ho : off' = i.sh + ao := by rcases hoff with q | q <;> omega
              subst h1
              have hl' := closed_ints g2
              subst h2
              refine ⟨_, _, rfl, key ns ?_, .string _⟩
              rw [ho, g1]
              congr 1
              apply Array.ext'
              rw [hl']
            · cases hr
          · cases hr
    · cases hr
  · cases hr
theorem convert_ok (ok : CxOK P) {src dst : TypeId} {x x' : Value} {r : R1} (hx : VR M x x') (s : SR P M h w) (hr : convertA P h src dst x = some r) : BOut P M h w r ((convert src dst x').run P.P w) := by
  unfold convertA at hr
  split at hr
  · rename_i hs
    split at hr
    · rename_i e hd
      split at hr
      · rename_i y
        cases hx
        unfold strBytes at hr
        split at hr
        · rename_i he
          split at hr
          · rename_i hsz
            obtain ⟨k, hk⟩ := run_appendCap (p := P.P) y.size 0 e w
            -- the row
            obtain ⟨cs, hcs⟩ : ∃ cs : Array Value, cs = (y.data.map fun b => Value.int .u8 b.toNat) ++ Array.replicate (y.size + k - y.size) (.int .u8 0) := ⟨_, rfl⟩
            have hsize : cs.size = y.size + k := by rw [hcs]; simp
            have hw2 : ({ w with drawn := w.drawn + 1, heap := w.heap.push (.cells cs e) } : World).freeze { block := w.heap.size, off := cs.size } 1 =
                { w with drawn := w.drawn + 1, heap := w.heap.push (.cells cs e (cs.size, cs.size + 1)) } := by
              unfold World.freeze
              rw [if_neg (by simp)]
              congr 1
              apply Array.ext_getElem?
              intro j
              simp only [Array.getElem?_modify, Array.getElem?_push]
              by_cases hj : w.heap.size = j
              · subst hj; simp
              · rw [if_neg hj]; simp [Ne.symm hj]
            have gw : Grew w { w with drawn := w.drawn + 1, heap := w.heap.push (.cells cs e (cs.size, cs.size + 1)) } (.cells cs e (cs.size, cs.size + 1)) := ⟨⟨rfl, rfl, rfl⟩, rfl⟩
            refine ⟨_, _, M.set h.next ⟨w.heap.size, 0, 1, cs.size, undef⟩, .slice (some ⟨w.heap.size, 0, none⟩) y.size (y.size + k), _, one_some hr, ?_, nxt_row s gw hsz (fun j hj hlo => by omega) ?_, ?_⟩
            · simp only [convert, Sem.run_bind, run_und ok hs, run_und ok hd, Result.andThen_ok, run_und ok he, Conv.stringToBytes, hk, newRow, run_newObj, Sem.run_pure, markStringish, shape]
              simp only [← hcs]
              have hshape : (Sem.shape w.heap.size Sem.pure).run P.P { w with drawn := w.drawn + 1, heap := w.heap.push (.cells cs e) } = .ok (some (e, cs.size)) { w with drawn := w.drawn + 1, heap := w.heap.push (.cells cs e) } := by
                simp [Sem.run, World.shape?]
              rw [hshape]
              simp only [Result.andThen_ok, run_freeze, hw2]
            · intro j v hj
              refine ⟨v, ?_, ?_⟩
              · rw [Nat.zero_add, hcs, Array.toList_append, List.getElem?_append_left]
                · simpa [bytesCells] using hj
                · have := (List.getElem?_eq_some_iff.1 hj).1; simpa [bytesCells] using this
              · have := (bytesCells_refl M y).get j v hj
                obtain ⟨u, hu, hv⟩ := this
                rw [hj] at hu; cases hu; exact hv
            · refine .slice _ 0 y.size _ ⟨w.heap.size, 0, 1, cs.size, undef⟩ 0 (y.size + k) (Mu.set_same _ _ _) (.inl rfl) ?_ ?_ ?_ ?_
              · rw [mkCap_half]; exact Nat.le_refl _
              · rw [mkCap_half]; omega
              · intro q; rw [mkCap_even] at q; cases q
              · intro _; simp [hsize]
          · cases hr
        · cases hr
      · cases hr
    · exact (convClosed_ok hx hr).out s
  · rename_i e hs
    split at hr
    · rename_i hd
      exact (bytesStr_ok ok hx s hs hd hr).out s
    · cases hr
  · exact (convClosed_ok hx hr).out s
section
variable {o : Oper} {a : Act} {E : Env} {r : R1}
theorem BOut.out {sm : Sem Value} (hb : BOut P M h w r (sm.run P.P w)) (ho : execOp a.eval o = (do pure (Next.value (← sm)))) : OpOut P M h w r ((execOp a.eval o).run P.P w) := by
  obtain ⟨v, h', M', u, w', rfl, h2, h3, h4⟩ := hb
  rw [ho]
  simp only [Sem.run_bind, h2, Result.andThen_ok, Sem.run_pure]
  exact .val h3 h4
theorem s_convert (ok : CxOK P) (s : SR P M h w) (e : ER M E a.tmps) {sT dT : TypeId} {x : Operand} (ho : o.op = .convert sT dT x) (hr : opConvert sT dT x P E h = some r) :
    OpOut P M h w r ((execOp a.eval o).run P.P w) := by
  obtain ⟨v, h1, h2⟩ := ev1_some hr
  exact (convert_ok ok (evalO_ok e h1) s h2).out (by simp only [execOp, ho])
theorem s_range (ok : CxOK P) (s : SR P M h w) (e : ER M E a.tmps) {t : TypeId} {x : Operand} (ho : o.op = .range t x) (hr : opRange t x P E h = some r) :
    OpOut P M h w r ((execOp a.eval o).run P.P w) := by
  obtain ⟨v, h1, h2⟩ := ev1_some hr
  have hx := evalO_ok e h1
  have fin : ∀ {ao : AO} {ob : Obj}, newO h ao ptrTo = some r → grpOf ao = none → (Instr.range t (a.eval x)).run P.P w = .ok (.pointer (some ⟨w.heap.size, 0, none⟩)) { w with heap := w.heap.push ob } →
      OR P (M.set h.next ⟨w.heap.size, 0, 0, 0, undef⟩) ⟨w.heap.size, 0, 0, 0, undef⟩ { w with heap := w.heap.push ob } ao → OpOut P M h w r ((execOp a.eval o).run P.P w) := by
    intro ao ob hn hg hrun hor
    have gw : Grew w { w with heap := w.heap.push ob } ob := ⟨⟨rfl, rfl, rfl⟩, rfl⟩
    have hb : BOut P M h w r ((Instr.range t (a.eval x)).run P.P w) :=
      ⟨_, _, _, _, _, one_some hn, hrun, nxt_obj 0 0 s hg gw hor, by simpa [ptrTo] using VR.ptr h.next 0 ⟨w.heap.size, 0, 0, 0, undef⟩ (Mu.set_same _ _ _)⟩
    exact hb.out (by simp only [execOp, ho])
  split at h2
  · rename_i y hd
    generalize hu : a.eval x = u at hx fin
    cases hx
    refine fin (ob := .stringIter y 0) h2 rfl ?_ ⟨by simp, rfl⟩
    simp only [Instr.range, Sem.run_bind, run_und ok hd, Result.andThen_ok, Sem.run_pure, run_newObj]
  · rename_i kt et hd
    generalize hu : a.eval x = u at hx fin
    cases hx
    refine fin (ob := .mapIter none 0 #[] 0) h2 rfl ?_ ⟨none, #[], by simp, rfl, rfl, rfl⟩
    simp only [Instr.range, Sem.run_bind, run_und ok hd, Result.andThen_ok, Sem.run_pure, run_newObj]
  · rename_i kt et m hd
    split at h2
    · rename_i es clock hg
      obtain ⟨i, hi, es', q1, q2, q3⟩ := s.obj _ _ hg
      generalize hu : a.eval x = u at hx fin
      cases hx with
      | map _ j hj =>
        rw [hi] at hj; cases hj
        have hid := s.fresh h.next (Nat.le_refl _)
        refine fin (ob := .mapIter (some i.blk) clock #[] clock) h2 rfl ?_ ⟨some i.blk, #[], by simp, rfl, ⟨i, Mu.le_set _ hid _ _ hi, rfl⟩, rfl⟩
        simp only [Instr.range, Sem.run_bind, run_und ok hd, Result.andThen_ok, run_getMap q1, Sem.run_pure, run_newObj]
    · cases h2
  · cases h2
theorem run_mapNext {p : Program} (n : Nat) (hn : 0 < n) (w : World) : ∃ k w1, k < n ∧ (choose (.mapNext n)).run p w = .ok k w1 ∧ w1.heap = w.heap ∧ Same w w1 := by
  by_cases hf : n ≤ 1
  · refine ⟨0, w, hn, ?_, rfl, ⟨rfl, rfl, rfl⟩⟩
    simp [choose, Sem.run, Question.forced, hf]
  · refine ⟨w.tape w.drawn (.mapNext n) % n, { w with drawn := w.drawn + 1 }, Nat.mod_lt _ hn, ?_, rfl, ⟨rfl, rfl, rfl⟩⟩
    simp [choose, Sem.run, Question.forced, Question.cut, hf]
theorem leftOf_ok {es es' : List MapEntry} (hl : ERs M es es') (seen : List Nat) (seen' : Array Nat) (hs : seen = seen'.toList.reverse) :
    ERs M (leftOf seen es) (es'.filter fun e => !seen'.contains e.born) := by
  induction hl with
  | nil => exact .nil
  | cons e e' r r' he hr ih =>
    rw [leftOf, bc_eq, List.filter_cons]
    have hmem : (memN e.born seen = true) ↔ seen'.contains e'.born = true := by
      rw [memN_iff, hs, he.2.2]; simp
    by_cases hh : memN e.born seen = true
    · rw [if_pos hh, if_neg (by simp only [hmem.1 hh, Bool.not_true, Bool.false_eq_true, not_false_eq_true])]; exact ih
    · rw [if_neg hh, if_pos (by
        have : ¬ seen'.contains e'.born = true := fun q => hh (hmem.2 q)
        simpa using this)]
      exact .cons _ _ _ _ he ih
theorem allOld_ok {es es' : List MapEntry} (hl : ERs M es es') (since : Nat) (ha : allOld since es = true) : ∀ e ∈ es', e.born < since := by
  induction hl with
  | nil => intro e he; cases he
  | cons e e' r r' h1 hr ih =>
    obtain ⟨g1, g2⟩ := bc_and (show bc (Nat.blt e.born since) (allOld since r) false = true from ha)
    intro x hx
    rcases List.mem_cons.1 hx with q | q
    · rw [q, ← h1.2.2]; exact bltN g1
    · exact ih g2 x q
theorem mem_leftOf {seen : List Nat} : ∀ {es : List MapEntry} {x : MapEntry}, x ∈ leftOf seen es → x ∈ es := by
  intro es
  induction es with
  | nil => intro x hx; cases hx
  | cons e r ih =>
    intro x hx
    rw [leftOf, bc_eq] at hx
    split at hx
    · exact List.mem_cons_of_mem _ (ih hx)
    · rcases List.mem_cons.1 hx with q | q
      · simp [q]
      · exact List.mem_cons_of_mem _ (ih q)
theorem nextsOf_mem {b m since clock : Nat} {seen : List Nat} {l : List MapEntry} {e : MapEntry} (he : e ∈ l) (hr : nextsOf h b m since seen clock l = some r) :
    r = .val (nextOne h b m since seen clock e).1 (nextOne h b m since seen clock e).2 ∨ ∃ l', r = .many l' ∧ nextOne h b m since seen clock e ∈ l' := by
  unfold nextsOf at hr
  split at hr
  · cases hr
  · simp at he; subst he
    left; exact one_some hr
  · right
    simp only [Option.some.injEq] at hr
    exact ⟨_, hr.symm, List.mem_map.2 ⟨e, he, rfl⟩⟩
theorem run_getObj {b : Nat} {ob : Obj} (hb : w.heap[b]? = some ob) (hc : ∀ c e f, ob ≠ .cells c e f) : (getObj b).run P.P w = .ok ob w := by
  simp only [getObj, Sem.run, hb] <;> cases ob <;> first | exact absurd rfl (hc _ _ _) | rfl
theorem s_next (s : SR P M h w) (e : ER M E a.tmps) {x : Operand} {b : Bool} (ho : o.op = .next x b) (hr : opNext x b P E h = some r) :
    OpOut P M h w r ((execOp a.eval o).run P.P w) := by
  obtain ⟨v, h1, h2⟩ := ev1_some hr
  have hx := evalO_ok e h1
  unfold nextA at h2
  split at h2
  · rename_i bk hp
    rw [placeOf_some hp] at hx
    obtain ⟨i, hi, hu⟩ := hx.at
    have hexec : execOp a.eval o = (do pure (Next.value (← Instr.next (.pointer (some ⟨i.blk, i.sh + 0, none⟩)) b o.type))) := by simp only [execOp, ho, hu]
    split at h2
    · rename_i y pos hg
      obtain ⟨j, hj, q1, q2⟩ := s.obj _ _ hg
      rw [hi] at hj; cases hj
      rw [q2] at hexec
      rw [bc_eq] at h2
      split at h2
      · rename_i hlt
        have hlt' : pos < y.size := bltN hlt
        refine BOut.out ?_ hexec
        refine ⟨_, _, M, .tuple #[.bool true, goInt pos, .int .i32 (Utf8.decode y pos).1], { w with heap := w.heap.setIfInBounds i.blk (.stringIter y (pos + (Utf8.decode y pos).2)) }, one_some h2, ?_, nxt_putO s hi hg rfl rfl turn_set ⟨set_at q1, q2⟩, ?_⟩
        · simp only [Instr.next, Sem.run_bind, run_getObj q1 (by intros; simp), Result.andThen_ok, if_pos hlt', run_setMap q1 (by intros; simp), Sem.run_pure]
        · exact .tuple _ _ (.cons _ _ _ _ (.bool _) (.cons _ _ _ _ (.int _ _) (.cons _ _ _ _ (.int _ _) .nil)))
      · rename_i hlt
        have hlt' : ¬ pos < y.size := fun q => hlt (Nat.ble_eq_true_of_le q)
        rw [one_some h2]
        refine BOut.out (BOut.same s (u := .tuple #[.bool false]) ?_ (.tuple _ _ (.cons _ _ _ _ (.bool _) .nil))) hexec
        simp only [Instr.next, Sem.run_bind, run_getObj q1 (by intros; simp), Result.andThen_ok, if_neg hlt', Sem.run_pure]
    · rename_i hg
      obtain ⟨j, hj, m', seen', q1, q2, q3, q4⟩ := s.obj _ _ hg
      rw [hi] at hj; cases hj
      rw [q4] at hexec
      rw [one_some h2]
      simp only at q3
      subst q3
      refine BOut.out (BOut.same s (u := .tuple #[.bool false]) ?_ (.tuple _ _ (.cons _ _ _ _ (.bool _) .nil))) hexec
      simp only [Instr.next, Sem.run_bind, run_getObj q1 (by intros; simp), Result.andThen_ok, Sem.run_pure]
    · rename_i m since seen stepped hg
      obtain ⟨j, hj, m', seen', q1, q2, q3, q4⟩ := s.obj _ _ hg
      rw [hi] at hj; cases hj
      rw [q4] at hexec
      obtain ⟨im, him, rfl⟩ := q3
      split at h2
      · rename_i es clock hgm
        obtain ⟨j, hj, es', p1, p2, p3⟩ := s.obj _ _ hgm
        rw [him] at hj; cases hj
        obtain ⟨hc, h3⟩ := bc_some h2
        obtain ⟨hc1, hc2⟩ := bc_and hc
        have hold := allOld_ok p2 since hc1
        have hss : since ≤ stepped := bleN hc2
        -- the guard that does not hold
        have hguard : (!seen'.isEmpty && !es'.isEmpty && es'.all fun x => decide (x.born ≥ stepped)) = false := by
          cases hes : es'.isEmpty with
          | true => simp
          | false =>
            have hne : es'.size ≠ 0 := by simpa [Array.isEmpty] using hes
            have hmem : es'[0]'(by omega) ∈ es'.toList := by simp
            have hlt := hold _ hmem
            have : es'.all (fun x => decide (x.born ≥ stepped)) = false := by
              rw [Array.all_eq_false]
              exact ⟨0, by omega, by simp; omega⟩
            simp [this]
        have hleft := leftOf_ok p2 seen seen' q2
        obtain ⟨left, hleftd⟩ : ∃ left : Array MapEntry, left = es'.filter fun e => !seen'.contains e.born := ⟨_, rfl⟩
        have hleftl : left.toList = es'.toList.filter fun e => !seen'.contains e.born := by rw [hleftd]; simp
        rw [← hleftl] at hleft
        have hlo : left.filter (fun x => decide (x.born < since)) = left := by
          apply Array.ext'
          rw [Array.toList_filter, List.filter_eq_self]
          intro x hx
          rw [hleftl] at hx
          simpa using hold x (List.mem_filter.1 hx).1
        have hln : left.filter (fun x => decide (x.born ≥ since)) = #[] := by
          apply Array.ext'
          rw [Array.toList_filter, List.filter_eq_nil_iff]
          intro x hx
          rw [hleftl] at hx
          have := hold x (List.mem_filter.1 hx).1
          simp; omega
        have hrun0 : ∀ K : Result Value, (let candidates : Array (Option MapEntry) := (if left.isEmpty then #[none] else #[]) ++ (left ++ #[]).map some
            ((choose (.mapNext candidates.size)).run P.P w).andThen fun k w' => (match candidates[k]? with
              | some (some e) => do setObj i.blk (.mapIter (some im.blk) since (seen'.push e.born) clock); pure (.tuple #[.bool true, e.key, e.val])
              | some none => pure (.tuple #[.bool false])
              | none => stuck "Next: no such candidate" : Sem Value).run P.P w') = K →
            (Instr.next (.pointer (some ⟨i.blk, 0 + 0, none⟩)) false o.type).run P.P w = K := by
          intro K hK
          simp only [Instr.next, Sem.run_bind, run_getObj q1 (by intros; simp), Result.andThen_ok, run_getMap p1, hguard, Bool.false_eq_true, if_false, ← hleftd, hlo, hln]
          exact hK
        have hll : (leftOf seen es).length = left.size := by rw [hleft.length]; simp
        split at h3
        · rename_i hnil
          rw [one_some h3]
          have h0 : left = #[] := by
            apply Array.ext'
            apply List.eq_nil_of_length_eq_zero
            rw [Array.length_toList, ← hll, hnil]; rfl
          refine BOut.out (sm := Instr.next (.pointer (some ⟨i.blk, 0 + 0, none⟩)) false o.type) ?_ hexec
          refine ⟨_, _, M, .tuple #[.bool false], w, rfl, hrun0 _ ?_, nxt_del s bk, .tuple _ _ (.cons _ _ _ _ (.bool _) .nil)⟩
          rw [h0]
          simp [choose, Sem.run, Question.forced]
        · rename_i l hl hne
          have hpos : 0 < left.size := by
            rw [← hll]
            cases hq : leftOf seen es with
            | nil => exact absurd hq (by simpa using hne)
            | cons x r => simp
          obtain ⟨k, w1, hk, hch, hw1, hsame⟩ := run_mapNext (p := P.P) left.size hpos w
          have hlem : left.isEmpty = false := by
            cases hq : left.isEmpty with
            | false => rfl
            | true => rw [Array.isEmpty_iff.1 hq] at hpos; simp at hpos
          have hkl : k < (leftOf seen es).length := by rw [hll]; exact hk
          obtain ⟨ek, hek⟩ : ∃ ek, (leftOf seen es)[k]? = some ek := ⟨_, List.getElem?_eq_getElem hkl⟩
          obtain ⟨ek', hek', hEE⟩ := hleft.get k ek hek
          have hekk : left[k]? = some ek' := by simpa using hek'
          have q1' : w1.heap[i.blk]? = some (.mapIter (some im.blk) since seen' stepped) := by rw [hw1]; exact q1
          have hrun : (Instr.next (.pointer (some ⟨i.blk, 0 + 0, none⟩)) false o.type).run P.P w = .ok (.tuple #[.bool true, ek'.key, ek'.val]) { w1 with heap := w1.heap.setIfInBounds i.blk (.mapIter (some im.blk) since (seen'.push ek'.born) clock) } := by
            refine hrun0 _ ?_
            have hcand : ((if left.isEmpty then #[none] else #[]) ++ (left ++ #[]).map some : Array (Option MapEntry)) = left.map some := by rw [hlem]; simp
            simp only [hcand, Array.size_map, hch, Result.andThen_ok]
            have : (left.map some)[k]? = some (some ek') := by simp [hekk]
            simp only [this, Sem.run_bind, run_setMap q1' (by intros; simp), Result.andThen_ok, Sem.run_pure]
          have n1 := nxt_same_heap s hw1 hsame
          have n2 : Nxt P M h w1 M (h.put bk (.mapIter (some m) since (ek.born :: seen) clock)) { w1 with heap := w1.heap.setIfInBounds i.blk (.mapIter (some im.blk) since (seen'.push ek'.born) clock) } := by
            refine nxt_putO n1.sr hi hg rfl rfl turn_set ⟨some im.blk, seen'.push ek'.born, set_at q1', ?_, ⟨im, him, rfl⟩, q4⟩
            rw [q2, hEE.2.2]; simp
          have hval : VR M (.tuple #[.bool true, ek.key, ek.val]) (.tuple #[.bool true, ek'.key, ek'.val]) :=
            .tuple _ _ (.cons _ _ _ _ (.bool _) (.cons _ _ _ _ hEE.1 (.cons _ _ _ _ hEE.2.1 .nil)))
          rw [hexec]
          simp only [Sem.run_bind, hrun, Result.andThen_ok, Sem.run_pure]
          rcases nextsOf_mem (List.mem_of_getElem? hek) h3 with q | ⟨l', q, hm⟩
          · rw [q]; exact .val (n1.trans n2) hval
          · rw [q]; exact .many hm (n1.trans n2) hval
      · cases h2
    · cases h2
  · cases h2
theorem findBorn_get : ∀ {l l' : List MapEntry} (_ : ERs M l l') (b k i : Nat) (x : MapEntry), findBorn b l k = some (i, x) → ∃ y, l'.find? (fun e => e.born == b) = some y ∧ ER1 M x y := by
  intro l l' hl
  induction hl with
  | nil => intro b k i x h; cases h
  | cons e e' r r' he hr ih =>
    intro b k i x h
    simp only [findBorn] at h
    rw [bc_eq] at h
    split at h
    · rename_i hb
      have := beqN hb
      simp only [Option.some.injEq, Prod.mk.injEq] at h
      refine ⟨e', ?_, by rw [← h.2]; exact he⟩
      rw [List.find?_cons_of_pos (by rw [← he.2.2, this]; simp)]
    · rename_i hb
      have hne : e.born ≠ b := fun q => hb (by rw [q]; exact Nat.beq_refl b)
      obtain ⟨y, h1, h2⟩ := ih b (Nat.succ k) i x h
      refine ⟨y, ?_, h2⟩
      rw [List.find?_cons_of_neg (by rw [← he.2.2]; simpa using hne)]; exact h1
theorem s_entry (s : SR P M h w) (e : ER M E a.tmps) {x : Operand} (ho : o.op = .entry x) (hr : opEntry x P E h = some r) :
    OpS P M h w r ((execOp a.eval o).run P.P w) := by
  obtain ⟨v, h1, h2⟩ := ev1_some hr
  have hx := evalO_ok e h1
  obtain ⟨z, h3, rfl⟩ := ret1_some h2
  unfold entryA at h3
  split at h3
  · rename_i bk hp
    rw [placeOf_some hp] at hx
    obtain ⟨i, hi, hu⟩ := hx.at
    split at h3
    · rename_i m since b rest stepped hg
      obtain ⟨j, hj, m', seen', q1, q2, q3, q4⟩ := s.obj _ _ hg
      rw [hi] at hj; cases hj
      obtain ⟨im, him, rfl⟩ := q3
      split at h3
      · rename_i es clock hgm
        obtain ⟨j, hj, es', p1, p2, p3⟩ := s.obj _ _ hgm
        rw [him] at hj; cases hj
        obtain ⟨hcl, h4⟩ := bc_some h3
        have hcl' : clock = stepped := beqN hcl
        subst hcl'
        split at h4
        · rename_i ix e0 hf
          simp only [Option.some.injEq] at h4; subst h4
          obtain ⟨y, g1, g2⟩ := findBorn_get p2 b 0 ix e0 hf
          have hback : seen'.back? = some b := by
            have : seen'.toList.getLast? = some b := by
              rw [← List.head?_reverse, ← q2]; rfl
            rw [Array.back?_eq_getElem?]
            rw [List.getLast?_eq_getElem?] at this
            simpa using this
          have hfind : es'.find? (fun e => e.born == b) = some y := by
            obtain ⟨l⟩ := es'; simpa using g1
          refine out_same s (.tuple _ _ (.cons _ _ _ _ g2.1 (.cons _ _ _ _ g2.2.1 .nil))) ?_
          simp only [execOp, ho, hu, q4, Instr.entry, Sem.run_bind, run_getObj q1 (by intros; simp), Result.andThen_ok, hback, run_getMap p1, bne_self_eq_false, Bool.false_eq_true, if_false, hfind, Sem.run_pure]
        · cases h4
      · cases h3
    · cases h3
  · cases h3
-- calls
theorem hasBody_ok (ok : CxOK P) {f : FuncId} (hb : hasBody P f = true) : ∃ fn c, P.P.funcs[f]? = some fn ∧ fn.body = some c ∧ ∀ args w, (callFunc f args).run P.P w = .ok (.enter f args) w := by
  unfold hasBody at hb
  split at hb
  · rename_i fn hfn
    split at hb
    · rename_i c hc
      refine ⟨fn, c, ok.fn f fn hfn, hc, fun args w => ?_⟩
      have hne : (fn.name == "runtime.NumGoroutine") = false := by simpa using hb
      simp only [callFunc, Sem.run_bind, run_program, Result.andThen_ok, ok.fn f fn hfn, hne, Bool.false_eq_true, if_false, hc, Option.isNone_some, Sem.run_pure]
    · cases hb
  · cases hb
theorem loadN_one (s : SR P M h w) {b off : Nat} {v : Value} (hl : loadN h b off 1 = some [v]) : ∃ i u, M b = some i ∧ w.cell? ⟨i.blk, i.sh + off, none⟩ = some u ∧ VR M v u := by
  unfold loadN at hl
  split at hl
  · rename_i cs e g hg
    obtain ⟨i, hi, c, lo, hi2, h1, h2, h3, h4, h5⟩ := s.obj _ _ hg
    rw [dropL_eq] at hl
    obtain ⟨e1, e2⟩ := takeL_spec _ _ _ hl
    have hv : cs[off]? = some v := by
      have := congrArg (·[0]?) e1
      simpa using this.symm
    obtain ⟨u, hu, hvu⟩ := h5 off v hv
    exact ⟨i, u, hi, by rw [cell_of h1]; simpa using hu, hvu⟩
  · cases hl
theorem storeL_one (s : SR P M h w) {b off : Nat} {v v' : Value} (hv : VR M v v') (hl : storeL h b off [v] = some h') {i : Img} (hi : M b = some i) :
    (∃ u, w.cell? ⟨i.blk, i.sh + off, none⟩ = some u) ∧ w.frozen? ⟨i.blk, i.sh + off, none⟩ = false ∧ Nxt P M h w M h' (w.setCell ⟨i.blk, i.sh + off, none⟩ v') := by
  obtain ⟨w', q1, q2⟩ := storeL_ok s (.cons _ _ _ _ hv .nil) hl hi
  have hone : v'.oneCell' = true ∧ ∃ u, w.cell? ⟨i.blk, i.sh + off, none⟩ = some u := by
    simp only [storeL] at hl
    split at hl
    · rename_i cs e g hg
      split at hl
      · rename_i cs' hcs
        obtain ⟨hsc, _⟩ := bc_some hl
        refine ⟨scals_ok (.cons _ _ _ _ hv .nil) hsc v' (by simp), ?_⟩
        obtain ⟨j, hj, c, lo, hi2, h1, h2, h3, h4, h5⟩ := s.obj _ _ hg
        rw [hi] at hj; cases hj
        obtain ⟨_, e2⟩ := spliceL_spec _ _ _ _ hcs
        have hk : off < cs.length := by simp at e2; omega
        obtain ⟨u, hu, _⟩ := h5 off cs[off] (List.getElem?_eq_getElem hk)
        exact ⟨u, by rw [cell_of h1]; simpa using hu⟩
      · cases hl
    · cases hl
  obtain ⟨hone, u, hu⟩ := hone
  simp only [storeCells, Sem.run_bind, add_off, Nat.add_zero, run_store _ _ _ _ _ hone, hu] at q1
  cases hz : w.frozen? ⟨i.blk, i.sh + off, none⟩ with
  | true => rw [hz] at q1; simp [Result.andThen] at q1
  | false =>
    rw [hz] at q1
    simp only [Bool.false_eq_true, if_false, Result.andThen_ok, Sem.run_pure, Result.ok.injEq, true_and] at q1
    exact ⟨⟨u, hu⟩, rfl, q1 ▸ q2⟩
theorem noVal_vr : VR M noVal (.tuple #[]) := .tuple _ _ .nil
/-- a call of a function without a body -/
theorem atom_ok (ok : CxOK P) (s : SR P M h w) {f : FuncId} {args args' : List Value} (ha : VRs M args args') (hr : atomR h args (atomFind f P.atm) = some r) :
    OpOut P M h w r ((callFunc f ⟨args'⟩).run P.P w) := by
  cases hq : atomFind f P.atm with
  | none => rw [hq] at hr; cases hr
  | some a =>
    rw [hq] at hr
    obtain ⟨fn, hf, hname, hb, hn, he⟩ := ok.atm f a hq
    cases a with
    | load k =>
      simp only [atomR] at hr
      split at hr
      · rename_i p
        split at hr
        · rename_i b off hp
          rw [placeOf_some hp] at ha
          obtain ⟨u, hp', ha1⟩ : ∃ u, args' = [u] ∧ VR M (.pointer (some ⟨b, off, none⟩)) u := by
            cases ha with | cons _ u _ _ h1 h2 => cases h2; exact ⟨u, rfl, h1⟩
          subst hp'
          obtain ⟨i, hi, rfl⟩ := ha1.at
          unfold atomL at hr
          split at hr
          · rename_i k' x hl
            obtain ⟨hk, h2⟩ := bc_some hr
            obtain rfl : k = k' := by simpa using hk
            obtain ⟨j, u, hj, hc, hvu⟩ := loadN_one s hl
            rw [hi] at hj; cases hj
            rw [hvu.int_inv] at hc
            rw [run_call_load hf hname hb hn k he hc, one_some h2]
            exact .val (Nxt.refl s) (.int _ _)
          · cases hr
        · cases hr
      · cases hr
    | store =>
      simp only [atomR] at hr
      split at hr
      · rename_i p k y
        split at hr
        · rename_i b off hp
          rw [placeOf_some hp] at ha
          obtain ⟨u, hp', ha1⟩ : ∃ u, args' = [u, .int k y] ∧ VR M (.pointer (some ⟨b, off, none⟩)) u := by
            cases ha with | cons _ u _ _ h1 h2 => cases h2 with | cons _ z _ _ h3 h4 => cases h4; exact ⟨u, by rw [h3.int_inv], h1⟩
          subst hp'
          obtain ⟨i, hi, rfl⟩ := ha1.at
          unfold atomS at hr
          split at hr
          · rename_i h1 hst
            obtain ⟨⟨u, hc⟩, hz, hx⟩ := storeL_one s (.int k y) hst hi
            rw [run_call_store hf hname hb hn he hc hz, one_some hr]
            exact .val hx noVal_vr
          · cases hr
        · cases hr
      · cases hr
    | add k =>
      simp only [atomR] at hr
      split at hr
      · rename_i p k1 y
        split at hr
        · rename_i b off hp
          obtain ⟨hk, h2⟩ := bc_some hr
          obtain rfl : k = k1 := by simpa using hk
          rw [placeOf_some hp] at ha
          obtain ⟨u, hp', ha1⟩ : ∃ u, args' = [u, .int k y] ∧ VR M (.pointer (some ⟨b, off, none⟩)) u := by
            cases ha with | cons _ u _ _ h1 h2 => cases h2 with | cons _ z _ _ h3 h4 => cases h4; exact ⟨u, by rw [h3.int_inv], h1⟩
          subst hp'
          obtain ⟨i, hi, rfl⟩ := ha1.at
          unfold atomA at h2
          split at h2
          · rename_i k' x hl
            obtain ⟨hk, h3⟩ := bc_some h2
            obtain rfl : k = k' := by simpa using hk
            obtain ⟨j, u, hj, hc, hvu⟩ := loadN_one s hl
            rw [hi] at hj; cases hj
            rw [hvu.int_inv] at hc
            unfold atomS at h3
            split at h3
            · rename_i h1 hst
              obtain ⟨_, hz, hx⟩ := storeL_one s (.int k (k.wrap (x + y))) hst hi
              rw [run_call_add hf hname hb hn k he hc hz (s := k.wrap (x + y)) (by simp [Op.intArith]), one_some h3]
              exact .val hx (.int _ _)
            · cases h3
          · cases h2
        · cases hr
      · cases hr
theorem s_call (ok : CxOK P) (s : SR P M h w) (e : ER M E a.tmps) {c : Call} (ho : o.op = .call c) (hr : opCall c P E h = some r) :
    OpOut P M h w r ((execOp a.eval o).run P.P w) := by
  obtain ⟨cal, args, ts⟩ := c
  cases cal with
  | builtin b =>
    have hr' : opBuiltin b ts args P E h = some r := hr
    unfold opBuiltin at hr'
    split at hr'
    · rename_i l hl
      have hargs := evalL_ok e hl
      have := builtin_ok ok s (tt := o.type) (consts := args.map fun | .const _ => true | _ => false) (args' := args.map a.eval) (by simpa using hargs) hr'
      simp only [execOp, ho, resolve, Sem.run_bind, Sem.run_pure, Result.andThen_ok, invoke]
      exact this
    · cases hr'
  | value f =>
    have hr' : opValue f args P E h = some r := hr
    obtain ⟨v, h1, h2⟩ := ev1_some hr'
    have hf := evalO_ok e h1
    split at h2
    · rename_i g first cap
      split at h2
      · rename_i l hl
        have hargs := evalL_ok e hl
        generalize hu : a.eval f = u at hf
        cases hf with
        | func _ a1 a' c1 c' ha hc =>
          have hlist : ((⟨a'⟩ : Array Value) ++ args.map a.eval ++ ⟨c'⟩).toList = a' ++ (args.toList.map a.eval ++ c') := by simp
          have hall : VRs M (appL a1 (appL l c1)) ((⟨a'⟩ : Array Value) ++ args.map a.eval ++ ⟨c'⟩).toList := by
            rw [hlist, appL_eq, appL_eq]
            exact ha.app (hargs.app hc)
          simp only [execOp, ho, resolve, hu, Deferred.ofValue, Sem.run_bind, Sem.run_pure, Result.andThen_ok, invoke]
          unfold callA at h2
          cases hb : hasBody P g with
          | true =>
            rw [hb] at h2
            cases h2
            obtain ⟨fn, c, _, _, hrun⟩ := hasBody_ok ok hb
            rw [hrun]
            exact .enter hall
          | false =>
            rw [hb] at h2
            exact atom_ok ok s hall h2
      · cases h2
    · rename_i l first cap
      split at h2
      · rename_i vs hl
        have hargs := evalL_ok e hl
        simp only [Option.some.injEq] at h2; subst h2
        generalize hu : a.eval f = u at hf
        cases hf with
        | yield _ i hi =>
          simp only [execOp, ho, resolve, hu, Deferred.ofValue, Sem.run_bind, Sem.run_pure, Result.andThen_ok, invoke]
          have : (#[] : Array Value) ++ args.map a.eval = ⟨args.toList.map a.eval⟩ := by apply Array.ext'; simp
          rw [this]
          exact .yield hi hargs
      · cases h2
    · cases h2
  | invoke x m => cases hr
end
end Go.Ev
