/- Outcomes that are one (own work). -/
import Derived.Test.YtbfepjofmkdafaaGreatEvS21
namespace Go.Ev
variable {P : Cx} {M M' : Mu} {h h' : AH} {w w' : World}

 mutual
theorem VR.down (hM : M.le M') : ∀ {v u u' : Value}, VR M v u → VR M' v u' → VR M v u'
  | _, _, _, .bool b, h => by cases h; exact .bool b
  | _, _, _, .int k n, h => by cases h; exact .int k n
  | _, _, _, .float k n, h => by cases h; exact .float k n
  | _, _, _, .string s, h => by cases h; exact .string s
  | _, _, _, .ptr0, h => by cases h; exact .ptr0
  | _, _, _, .ptr b off i hi, h => by
    cases h with
    | ptr _ _ j hj => rw [hM b i hi] at hj; cases hj; exact .ptr b off i hi
  | _, _, _, .slice0, h => by cases h; exact .slice0
  | _, _, _, .slice b off len code i off' c' hi ho hl hc hex hroom, h => by
    cases h with
    | slice _ _ _ _ j off2 c2 hj ho2 hl2 hc2 hex2 hroom2 => rw [hM b i hi] at hj; cases hj; exact .slice b off len code i off2 c2 hi ho2 hl2 hc2 hex2 hroom2
  | _, _, _, .map0, h => by cases h; exact .map0
  | _, _, _, .map b i hi, h => by
    cases h with
    | map _ j hj => rw [hM b i hi] at hj; cases hj; exact .map b i hi
  | _, _, _, .nilFunc, h => by cases h; exact .nilFunc
  | _, _, _, .nilIface, h => by cases h; exact .nilIface
  | _, _, _, .func f a a' c c' ha hc, h => by
    cases h with
    | func _ _ a2 _ c2 ha2 hc2 => exact .func f a a2 c c2 (VRs.down hM ha ha2) (VRs.down hM hc hc2)
  | _, _, _, .yield l i hi, h => by
    cases h with
    | yield _ j hj => rw [hM l i hi] at hj; cases hj; exact .yield l i hi
  | _, _, _, .iface t v v' hv, h => by
    cases h with
    | iface _ _ v2 hv2 => exact .iface t v v2 (VR.down hM hv hv2)
  | _, _, _, .sym k i u hi hu ho, h => by
    cases h with
    | sym _ j _ hj hu2 ho2 => rw [hM k i hi] at hj; cases hj; exact .sym k i _ hi hu2 ho2
  | _, _, _, .agg c c' hc, h => by
    cases h with
    | agg _ c2 hc2 => exact .agg c c2 (VRs.down hM hc hc2)
  | _, _, _, .tuple c c' hc, h => by
    cases h with
    | tuple _ c2 hc2 => exact .tuple c c2 (VRs.down hM hc hc2)
theorem VRs.down (hM : M.le M') : ∀ {v u u' : List Value}, VRs M v u → VRs M' v u' → VRs M v u'
  | _, _, _, .nil, h => by cases h; exact .nil
  | _, _, _, .cons v v' r r' hv hr, h => by
    cases h with
    | cons _ v2 _ r2 hv2 hr2 => exact .cons v v2 r r2 (VR.down hM hv hv2) (VRs.down hM hr hr2)
 end
theorem ERs.down (hM : M.le M') : ∀ {v u u' : List MapEntry}, ERs M v u → ERs M' v u' → ERs M v u' := by
  intro v u u' h1
  induction h1 generalizing u' with
  | nil => intro h; cases h; exact .nil
  | cons e e' r r' he hr ih =>
    intro h
    cases h with
    | cons _ e2 _ r2 he2 hr2 => exact .cons _ _ _ _ ⟨he.1.down hM he2.1, he.2.1.down hM he2.2.1, he2.2.2⟩ (ih hr2)
theorem OR.down (hM : M.le M') {i i' : Img} {o : AO} (h1 : OR P M i w o) (h2 : OR P M' i' w' o) : OR P M i' w' o := by
  cases o with
  | cells cs e g =>
    obtain ⟨c, lo, hi, _, _, _, _, q5⟩ := h1
    obtain ⟨c2, lo2, hi2, p1, p2, p3, p4, p5⟩ := h2
    refine ⟨c2, lo2, hi2, p1, p2, p3, p4, fun k v hk => ?_⟩
    obtain ⟨u, _, hv⟩ := q5 k v hk
    obtain ⟨u2, hu2, hv2⟩ := p5 k v hk
    exact ⟨u2, hu2, hv.down hM hv2⟩
  | map es clock =>
    obtain ⟨es', _, q2, q3⟩ := h1
    obtain ⟨es2, p1, p2, _⟩ := h2
    exact ⟨es2, p1, q2.down hM p2, q3⟩
  | mapIter m since seen stepped =>
    obtain ⟨m', seen', _, _, q3, _⟩ := h1
    obtain ⟨m2, seen2, p1, p2, p3, p4⟩ := h2
    refine ⟨m2, seen2, p1, p2, ?_, p4⟩
    cases m with
    | none => exact p3
    | some r =>
      obtain ⟨j, hj, _⟩ := q3
      obtain ⟨j2, hj2, e2⟩ := p3
      rw [hM r j hj] at hj2; cases hj2
      exact ⟨j, hj, e2⟩
  | strIter y p => exact h2
  | loop T ps as bd m p =>
    obtain ⟨r, _, _, _, _, q5, _⟩ := h1
    obtain ⟨r2, p1, p2, p3, p4, p5, p6⟩ := h2
    refine ⟨r2, p1, p2, p3, p4, fun k v hk => ?_, p6⟩
    obtain ⟨u, _, hv⟩ := q5 k v hk
    obtain ⟨u2, hu2, hv2⟩ := p5 k v hk
    exact ⟨u2, hu2, hv.down hM hv2⟩
/-- what was there stands as it stood -/
theorem kept_all {hl : AH} {w0 : World} (s : SR P M hl w0) (n : Nxt P M hl w0 M' h' w') (hlo : hl.next ≤ h'.lo) :
    (∀ b, b < hl.next → h'.get b = hl.get b) ∧ ∀ b o, hl.get b = some o → ∃ i, M b = some i ∧ M' b = some i ∧ OR P M i w' o := by
  have hg : ∀ b, b < hl.next → h'.get b = hl.get b := fun b hb => n.fp b (Nat.lt_of_lt_of_le hb hlo) hb
  refine ⟨hg, fun b o hb => ?_⟩
  obtain ⟨i, hi, ho⟩ := s.obj b o hb
  have hlt := s.lt hb
  obtain ⟨i', hi', ho'⟩ := n.sr.obj b o (by rw [hg b hlt]; exact hb)
  have := n.mu b i hi
  rw [hi'] at this; cases this
  exact ⟨i, hi, hi', ho.down n.mu ho'⟩
theorem settle_val {hl : AH} {w0 : World} (s : SR P M hl w0) (n : Nxt P M hl w0 M' h' w') (hlo : hl.next ≤ h'.lo) : Nxt P M hl w0 M hl w' := by
  obtain ⟨hg, hk⟩ := kept_all s n hlo
  refine { Nxt.refl s with
    sr := ⟨s.ai, fun b o hb => ?_, s.sep, s.fresh, s.lon⟩
    kept := n.kept, size := n.size, os := n.os, tape := n.tape, output := n.output }
  obtain ⟨i, h1, _, h3⟩ := hk b o hb
  exact ⟨i, h1, h3⟩
theorem closeds_CR {n : Nat} {M1 M2 : Mu} {cs c : List Value} {sh : Nat} (hc : closedV.allL n cs = true) (h1 : CR M1 cs c sh) : CR M2 cs c sh := by
  intro k v hk
  obtain ⟨u, hu, hv⟩ := h1 k v hk
  have hcl : closedV n v = true := by
    have : ∀ (l : List Value), closedV.allL n l = true → ∀ v ∈ l, closedV n v = true := by
      intro l
      induction l with
      | nil => intro _ v hv; cases hv
      | cons x r ih =>
        intro h v hv
        obtain ⟨g1, g2⟩ := bc_and (show bc (closedV n x) (closedV.allL n r) false = true from h)
        rcases List.mem_cons.1 hv with q | q
        · rw [q]; exact g1
        · exact ih g2 v q
    exact this cs hc v (List.mem_of_getElem? hk)
  rw [closed_eq n hcl hv] at hu
  exact ⟨v, hu, closed_refl n hcl⟩
theorem settle_row {hl : AH} {w0 : World} {b off len code g : Nat} {cs : List Value} {e : TypeId} {u : Value} (s : SR P M hl w0) (n : Nxt P M hl w0 M' h' w') (hlo : hl.next ≤ h'.lo)
    (hb : h'.get b = some (.cells cs e g)) (hbk : hl.next ≤ b) (hcl : closedV.allL 6 cs = true) (hv : VR M' (.slice (some ⟨b, off, none⟩) len code) u) :
    ∃ M'', Nxt P M hl w0 M'' (hl.newCells cs e) w' ∧ VR M'' (.slice (some ⟨hl.next, off, none⟩) len code) u := by
  obtain ⟨hg, hk⟩ := kept_all s n hlo
  obtain ⟨i, hi, ho⟩ := n.sr.obj b _ hb
  have hid := s.fresh hl.next (Nat.le_refl _)
  have hle : M.le (M.set hl.next i) := Mu.le_set i hid
  have hget := get_newCells s.ai cs e
  -- no older block lies there
  have hsep : ∀ b' o' i', hl.get b' = some o' → M b' = some i' → i'.blk ≠ i.blk := by
    intro b' o' i' hb' hi' he
    have hlt := s.lt hb'
    have hb2 : h'.get b' = some o' := by rw [hg b' hlt]; exact hb'
    rcases n.sr.sep b' b o' _ i' i hb2 hb (n.mu _ _ hi') hi he with q | ⟨g', g1, g2⟩
    · omega
    · simp only [grpOf, Option.some.injEq] at g2
      cases o' with
      | cells cs0 e0 g0 =>
        simp only [grpOf, Option.some.injEq] at g1
        have h3 := (s.ai b' cs0 e0 g0 (get_tr hb').1).1
        have h4 := n.gl b cs e g (get_tr hb).1 hbk (by omega)
        omega
      | _ => cases g1
  have hold : ∀ x o, (hl.newCells cs e).get x = some o → x ≠ hl.next → hl.get x = some o := by
    intro x o hx hne
    rw [hget, if_neg hne] at hx; exact hx
  refine ⟨M.set hl.next i, ⟨⟨ai_newCells s.ai cs e, ?_, ?_, ?_, Nat.le_trans s.lon (Nat.le_succ _)⟩, hle, Nat.le_succ _, fun x hx => Mu.set_other M i (by omega), ?_, n.kept, n.size, n.os, n.tape, n.output, Nat.le_refl _, ?_, ?_, ?_, ?_⟩, ?_⟩
  · intro x o hx
    by_cases hxe : x = hl.next
    · subst hxe
      rw [hget, if_pos rfl] at hx; cases hx
      refine ⟨i, Mu.set_same _ _ _, ?_⟩
      obtain ⟨c, lo, hi2, p1, p2, p3, p4, p5⟩ := ho
      exact ⟨c, lo, hi2, p1, p2, p3, p4, closeds_CR hcl p5⟩
    · obtain ⟨j, hj, _, hoj⟩ := hk x o (hold x o hx hxe)
      exact ⟨j, hle _ _ hj, hoj.mono hle⟩
  · intro x y o1 o2 i1 i2 h1 h2 m1 m2 he
    by_cases hx : x = hl.next
    · by_cases hy : y = hl.next
      · exact .inl (hx.trans hy.symm)
      · rw [hx, Mu.set_same] at m1; cases m1
        rw [Mu.set_other M i hy] at m2
        exact absurd he.symm (hsep y o2 i2 (hold y o2 h2 hy) m2)
    · rw [Mu.set_other M i hx] at m1
      by_cases hy : y = hl.next
      · rw [hy, Mu.set_same] at m2; cases m2
        exact absurd he (hsep x o1 i1 (hold x o1 h1 hx) m1)
      · rw [Mu.set_other M i hy] at m2
        exact s.sep x y o1 o2 i1 i2 (hold x o1 h1 hx) (hold y o2 h2 hy) m1 m2 he
  · intro x hx
    have hx' : hl.next + 1 ≤ x := hx
    rw [Mu.set_other M i (by omega)]; exact s.fresh x (by omega)
  · rintro y ⟨x, o, j, hx, hj, hy⟩
    by_cases hxe : x = hl.next
    · rw [hxe, Mu.set_same] at hj; cases hj
      exact n.img y ⟨b, _, i, hb, hi, hy⟩
    · rw [Mu.set_other M i hxe] at hj
      exact .inl ⟨x, o, j, hold x o hx hxe, hj, hy⟩
  · intro x hx hxn
    rw [hget, if_neg (by omega)]
  · intro x cs' e' g' hx
    simp only [AH.newCells, Tr.get_put] at hx
    by_cases hxe : x = hl.next
    · rw [if_pos hxe] at hx; cases hx; exact .inl (Nat.le_refl _)
    · rw [if_neg hxe] at hx; exact .inr ⟨x, _, _, hx⟩
  · intro x cs' e' g' hx hn hgn
    simp only [AH.newCells, Tr.get_put] at hx
    by_cases hxe : x = hl.next
    · rw [if_pos hxe] at hx; cases hx; omega
    · rw [if_neg hxe] at hx; have := (s.ai x _ _ _ hx).2; omega
  · intro x cs' e' g' hx hn
    simp only [AH.newCells, Tr.get_put] at hx
    rw [if_neg (by omega)] at hx; exact ⟨_, _, hx⟩
  · cases hv with
    | slice _ _ _ _ j off' c' hj ho' hl' hc hex hroom =>
      rw [hi] at hj; cases hj
      exact .slice _ off len code i off' c' (Mu.set_same _ _ _) ho' hl' hc hex hroom
/-- an outcome whose seal is known -/
theorem seal_ok {hl : AH} {w0 : World} {x : VH} {sl : Seal} {u : Value} (s : SR P M hl w0) (hs : sealOf hl.next x = some sl) (n : Nxt P M hl w0 M' x.2 w') (hv : VR M' x.1 u) :
    ∃ M'', Nxt P M hl w0 M'' (openSeal hl sl).2 w' ∧ VR M'' (openSeal hl sl).1 u := by
  unfold sealOf at hs
  obtain ⟨hlo, hs2⟩ := bc_some hs
  have hlo' := bleN hlo
  rw [bc_eq] at hs2
  split at hs2
  · rename_i hc
    simp only [Option.some.injEq] at hs2; subst hs2
    refine ⟨M, settle_val s n hlo', ?_⟩
    have := closed_eq 6 hc hv
    subst this
    exact closed_refl 6 hc
  · obtain ⟨x1, x2⟩ := x
    simp only at hs2 n hv hlo'
    split at hs2
    · rename_i a len code _
      obtain ⟨ab, ao, as⟩ := a
      split at hs2
      · rename_i hspot
        simp only at hspot
        subst hspot
        split at hs2
        · rename_i cs e g hg
          obtain ⟨hc, hs3⟩ := bc_some hs2
          obtain ⟨h1, h2⟩ := bc_and hc
          simp only [Option.some.injEq] at hs3; subst hs3
          exact settle_row s n hlo' hg (bleN h1) h2 hv
        · cases hs2
      · cases hs2
    · cases hs2
theorem sealEq_ok {s t : Seal} (h : sealEq s t = true) : s = t := by
  unfold sealEq at h
  split at h
  · rw [veq_eq 6 h]
  · obtain ⟨h1, h2⟩ := bc_and h
    obtain ⟨h3, h4⟩ := bc_and h2
    obtain ⟨h5, h6⟩ := bc_and h4
    obtain ⟨h7, h8⟩ := bc_and h6
    rw [beqN h1, beqN h3, beqN h5, beqN h7, veqs_eq (veq_eq 6) h8]
  · cases h
theorem sealAll_ok {k : Nat} {s : Seal} : ∀ {o : Outs VH}, sealAll k s o = true → ∀ x, inO x o → sealOf k x = some s := by
  intro o
  induction o with
  | fail => intro _ x hx; exact hx.elim
  | one a =>
    intro h x hx
    cases hx
    unfold sealAll at h
    split at h
    · rename_i t ht; rw [ht, sealEq_ok h]
    · cases h
  | more a r ih =>
    intro h x hx
    unfold sealAll at h
    split at h
    · rename_i t ht
      obtain ⟨h1, h2⟩ := bc_and h
      rcases hx with q | q
      · rw [q, ht, sealEq_ok h1]
      · exact ih h2 x q
    · cases h
/-- outcomes, settled -/
theorem settle_ok {hl : AH} {w0 : World} {outs : Outs VH} (s : SR P M hl w0) {x : VH} {u : Value} (hx : inO x outs) (n : Nxt P M hl w0 M' x.2 w') (hv : VR M' x.1 u) :
    ∃ y M'', inO y (settle hl outs) ∧ Nxt P M hl w0 M'' y.2 w' ∧ VR M'' y.1 u := by
  have self : settle hl outs = outs → ∃ y M'', inO y (settle hl outs) ∧ Nxt P M hl w0 M'' y.2 w' ∧ VR M'' y.1 u := fun e => ⟨x, M', by rw [e]; exact hx, n, hv⟩
  cases outs with
  | fail => exact hx.elim
  | one a => exact self rfl
  | more a r =>
    cases hs : sealOf hl.next a with
    | none => exact self (by unfold settle; simp only [hs])
    | some sl =>
      cases hall : sealAll hl.next sl r with
      | false => exact self (by unfold settle; simp only [hs, hall])
      | true =>
        have he : settle hl (.more a r) = .one (openSeal hl sl) := by unfold settle; simp only [hs, hall]
        have hxs : sealOf hl.next x = some sl := by
          rcases hx with q | q
          · rw [q]; exact hs
          · exact sealAll_ok hall x q
        obtain ⟨M'', q1, q2⟩ := seal_ok s hxs n hv
        exact ⟨_, M'', by rw [he]; exact inO_one _, q1, q2⟩
end Go.Ev
