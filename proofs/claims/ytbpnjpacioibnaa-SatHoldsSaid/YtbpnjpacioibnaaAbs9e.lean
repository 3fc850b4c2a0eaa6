/- A drawn region, whole; then code. -/
import Derived.Test.YtbpnjpacioibnaaAbs9d
set_option linter.unusedVariables false
set_option linter.unusedSimpArgs false
namespace Go.Abs
open Go Go.RowKit
theorem olderOf_eq {j : Nat} {u : AV} {older : RS} : ∀ {newer : RS}, j ∉ newer.map (·.1) → olderOf j (newer ++ (j, u) :: older) = some (u, older)
  | [], _ => by simp [olderOf]
  | (i, v) :: r, h => by
    simp only [List.map_cons, List.mem_cons, not_or] at h
    have hb : Nat.beq i j = false := by cases hh : Nat.beq i j with | false => rfl | true => exact absurd (Nat.eq_of_beq_eq_true hh).symm h.1
    simp only [List.cons_append, olderOf, hb, cond_false]
    exact olderOf_eq h.2
theorem mem_preds {o : Oper} {p : Nat} : p ∈ preds o ↔ ∃ e ∈ o.after, Region.binds .any e = true ∧ e.on = p := by
  simp only [preds, List.mem_map, List.mem_filter, Array.mem_toList_iff]
  exact ⟨fun ⟨e, ⟨h1, h2⟩, h3⟩ => ⟨e, h1, h2, h3⟩, fun ⟨e, h1, h2, h3⟩ => ⟨e, ⟨h1, h2⟩, h3⟩⟩
theorem snd_inj : ∀ {al : List (Nat × Nat)} {i j id : Nat}, (al.map (·.2)).Nodup → (i, id) ∈ al → (j, id) ∈ al → i = j
  | [], _, _, _, _, h, _ => by cases h
  | (k, q) :: al, i, j, id, hn, h1, h2 => by
    simp only [List.map_cons, List.nodup_cons] at hn
    rcases List.mem_cons.1 h1 with h1 | h1 <;> rcases List.mem_cons.1 h2 with h2 | h2
    · cases h1; cases h2; rfl
    · cases h1; exact absurd (List.mem_map.2 ⟨_, h2, rfl⟩) hn.1
    · cases h2; exact absurd (List.mem_map.2 ⟨_, h1, rfl⟩) hn.1
    · exact snd_inj hn.2 h1 h2
theorem nodup_filter_map {α : Type} {f : (Nat × Nat) → α} {p : Nat × Nat → Bool} {al : List (Nat × Nat)} (h : (al.map f).Nodup) : ((al.filter p).map f).Nodup :=
  h.sublist (List.Sublist.map f List.filter_sublist)
section
variable {P : Program} {E : Env} {ops : Array Oper} {s0 : List AV} {K' : KK} {X0 : Cx}
theorem Inv.sat (S : Stat ops (masks ops.toList)) (R0 : Rl X0) {K : List AV → Mem → Prop} {L : Array Bool} {a : Act} : ∀ (rest : List PStep) {X : Cx} {rs : RS} {al : List (Nat × Nat)}, Inv P E ops s0 K X0 L a X rs rest al →
    ∃ X' rs' rest' al', X'.w = X.w ∧ Inv P E ops s0 K X0 L a X' rs' rest' al' ∧ (rest' = [] ∨ ∃ i re r, rest' = .eff i re :: r)
  | [], X, rs, al, I => ⟨X, rs, [], al, rfl, I, .inl rfl⟩
  | .eff i re :: r, X, rs, al, I => ⟨X, rs, _, al, rfl, I, .inr ⟨i, re, r, rfl⟩⟩
  | .op i :: r, X, rs, al, I => by
    obtain ⟨v, X1, al1, hw, I1⟩ := I.adv S R0
    obtain ⟨X2, rs2, rest2, al2, hw2, I2, h2⟩ := Inv.sat S R0 r I1
    exact ⟨X2, rs2, rest2, al2, hw2.trans hw, I2, h2⟩
theorem draw_ok (hE : EnvOk P E) (S : Stat ops (masks ops.toList)) (R0 : Rl X0) : ∀ (fuel : Nat) {L : Array Bool} {a : Act} {X : Cx} {rs : RS} {rest : List PStep} {al : List (Nat × Nat)},
    Inv P E ops s0 (fun s M => K' .normal s M) X0 L a X rs rest al → (rest = [] ∨ ∃ i re r, rest = .eff i re :: r) → L.toList.count false ≤ fuel → wpAny P .any ops (CS P X0 K') fuel L a X.w := by
  intro fuel
  have fin : ∀ {L : Array Bool} {a : Act} {X : Cx} {rs : RS} {rest : List PStep} {al : List (Nat × Nat)}, Inv P E ops s0 (fun s M => K' .normal s M) X0 L a X rs rest al → (rest = [] ∨ ∃ i re r, rest = .eff i re :: r) →
      Region.ready .any ops L = [] → CS P X0 K' .normal a X.w := by
    intro L a X rs rest al I hsat hready
    have hnr : ∀ (i : Nat) (o : Oper), ops[i]? = some o → (∀ p ∈ preds o, L.getD p false = true) → L.getD i false = true := fun i o ho hp => by
      cases hb : L.getD i false with
      | true => rfl
      | false =>
        have hil : i < L.size := by rw [I.Ls]; exact (Array.getElem?_eq_some_iff.1 ho).1
        have hm : i ∈ Region.ready .any ops L := mem_ready.2 ⟨by
          rw [Array.getD_eq_getD_getElem?, Array.getElem?_eq_getElem hil] at hb ⊢; exact hb, o, ho, fun e he hbi => hp _ (mem_preds.2 ⟨e, he, hbi, rfl⟩)⟩
        rw [hready] at hm; cases hm
    have hall : ∀ (older newer : RS), rs = newer ++ older → ∀ j ∈ older.map (·.1), L.getD j false = true := by
      intro older
      induction older with
      | nil => intro newer _ j hj; simp at hj
      | cons q older ih =>
        intro newer hr j hj
        obtain ⟨i, v⟩ := q
        have ih' := ih (newer ++ [(i, v)]) (by simp [hr])
        rcases List.mem_cons.1 hj with rfl | hj
        · cases ho : ops[j]? with
          | none =>
            exfalso
            have he : effAt ops j = true := by simp [effAt, ho]
            have := I.eff j v (by rw [hr]; simp) he
            have hlt : j < L.size := by
              rcases Nat.lt_or_ge j L.size with h | h
              · exact h
              · rw [Array.getD_eq_getD_getElem?, Array.getElem?_eq_none h] at this; cases this
            rw [I.Ls] at hlt
            rw [Array.getElem?_eq_getElem hlt] at ho; cases ho
          | some o => exact hnr j o ho fun p hp => ih' p (I.hist newer j v older o hr ho p hp)
        · exact ih' j hj
    have hall := hall rs [] rfl
    rcases hsat with rfl | ⟨i, re, r, rfl⟩
    · refine ⟨.normal, X, sig ops s0 rs, trivial, I.run, I.R, I.E0, rfl, I.defers, by rw [sig_len]; exact I.size, fun t v hv => (I.slots t v).2 (fun ⟨j, w, oj, hj, hjL, _⟩ => ?_) hv⟩
      rw [hall j (List.mem_map.2 ⟨_, hj, rfl⟩)] at hjL; cases hjL
    · exfalso
      have hpl := I.plan
      simp only [planOk, Bool.and_eq_true, Bool.not_eq_true', List.contains_eq_mem, decide_eq_false_iff_not, decide_eq_true_eq, List.all_eq_true] at hpl
      obtain ⟨⟨⟨⟨⟨⟨h1, h2⟩, h3⟩, _⟩, _⟩, _⟩, _⟩ := hpl
      have ho : ops[i]? = some ops[i] := Array.getElem?_eq_getElem h2
      rw [predsAt_eq ho] at h3
      exact h1 (I.LK i (hnr i _ ho fun p hp => hall p (h3 p hp)))
  have cnt : ∀ {L : Array Bool} {i : Nat}, L.getD i true = false → 0 < L.toList.count false ∧ (L.setIfInBounds i true).toList.count false = L.toList.count false - 1 := fun {L i} h => by
    have hlt : i < L.size := by
      rcases Nat.lt_or_ge i L.size with h' | h'
      · exact h'
      · rw [Array.getD_eq_getD_getElem?, Array.getElem?_eq_none h'] at h; cases h
    have hv : L.toList[i]'(by simpa using hlt) = false := by
      rw [Array.getD_eq_getD_getElem?, Array.getElem?_eq_getElem hlt] at h; simpa using h
    refine ⟨List.count_pos_iff.2 (by rw [← hv]; exact List.getElem_mem _), ?_⟩
    rw [Array.toList_setIfInBounds, List.count_set (by simpa using hlt), hv]
    simp
  induction fuel with
  | zero =>
    intro L a X rs rest al I hsat hc
    have hr : Region.ready .any ops L = [] := by
      cases hh : Region.ready .any ops L with
      | nil => rfl
      | cons i l =>
        have hm : i ∈ Region.ready .any ops L := by rw [hh]; simp
        have := (cnt (mem_ready.1 hm).1).1
        omega
    exact ⟨hr, fin I hsat hr⟩
  | succ fuel ih =>
    intro L a X rs rest al I hsat hc
    refine ⟨fin I hsat, fun i hi => ?_⟩
    obtain ⟨hun, o, ho, hall⟩ := mem_ready.1 hi
    have hL : L.getD i false = false := by
      have hlt : i < L.size := by rw [I.Ls]; exact (Array.getElem?_eq_some_iff.1 ho).1
      rw [Array.getD_eq_getD_getElem?, Array.getElem?_eq_getElem hlt] at hun ⊢
      exact hun
    have hp : ∀ p ∈ preds o, L.getD p false = true := fun p hp => by
      obtain ⟨e, he, hb, rfl⟩ := mem_preds.1 hp
      exact hall e he hb
    have hc' : (L.setIfInBounds i true).toList.count false ≤ fuel := by
      have := cnt hun
      omega
    unfold wpOp
    rw [ho]
    simp only
    by_cases him : i ∈ rs.map (·.1)
    · obtain ⟨newer, v, older, hr⟩ := splitAt him
      have hop : ∀ t ∈ o.looksAt ops, ∀ u, (sig ops s0 older)[t]? = some u → ∃ x, a.tmps[t]? = some x ∧ VR X u x := fun t ht u hu => I.opnd S hr hL ho hp ht hu
      have hρ : ∀ x ∈ o.op.operands.toList, VR X (ev (sig ops s0 older) x) (a.eval x) := ev_of (ops := ops) hop
      obtain ⟨_, hlag⟩ := I.lag newer i v older o hr hL ho
      have hold : ∀ newer j u older oj, rs = newer ++ (j, u) :: older → j ≠ i → L.getD j false = false → ops[j]? = some oj → Lag E ops s0 X0 X al j u older oj := fun n j u od oj h _ h2 h3 => I.lag n j u od oj h h2 h3
      rcases hlag with ⟨hg, rfl⟩ | ⟨hg, hk, hv⟩ | ⟨hg, hk, l, id, hl, hcell, rfl, hal, hge, hget, hun2⟩
      · rw [if_neg (by rw [agd_of (ops := ops) hop hg]; decide)]
        exact ih (I.did S hr hL ho hp rfl I.R I.E0 (fun _ _ h => h) (nothing_ok X) hold I.aln I.alu fun _ _ h => h) hsat hc'
      · rw [if_pos (agd_of (ops := ops) hop hg)]
        obtain ⟨x, h1, h2⟩ := read_ok hE.T I.R hv hρ
        refine .inl ?_
        unfold Oper.wp
        rw [h1]
        exact ih (I.did S hr hL ho hp rfl I.R I.E0 (fun _ _ h => h) h2 hold I.aln I.alu fun _ _ h => h) hsat hc'
      · rw [if_pos (agd_of (ops := ops) hop hg)]
        obtain ⟨cur, x, h1, h2, h3, h4⟩ := alloc_ok hE.T hl hcell hρ
        refine .inl ?_
        unfold Oper.wp
        rw [h1]
        have R' := X.born_ok I.R hun2 hget h3 h4 hcell
        have E1 := X.born_ev0 I.R hun2 (.cells cur l.e)
        have E' : Ev X0 (X.born id (.cells cur l.e)) := ⟨I.E0.toEv0.trans E1 R0, fun j o' h h' => by
          obtain ⟨b1, b2⟩ := I.E0.unborn j o' h h'
          have hne : j ≠ id := by have := R0.dom j o' h; omega
          exact ⟨b1, by simp [Cx.born, hne, b2]⟩⟩
        have hvr : VR (X.born id (.cells cur l.e)) (l.val id) x := by
          unfold AL.val
          unfold AL.real at h2
          cases hs : l.sl with
          | true =>
            rw [hs] at h2
            obtain ⟨cap, rfl, h5, h6⟩ := h2
            simp only [cond_true, VR]
            exact .inr ⟨l.e, l.sz, false, l.cs, X.w.heap.size, cap, cur, (0, 0), hget, rfl, by simp [Cx.born], rfl, heap_alloc_new' _ _, by omega, h6⟩
          | false =>
            rw [hs] at h2
            simp only [Bool.false_eq_true, if_false] at h2
            subst h2
            simp only [cond_false, VR]
            exact .inr ⟨Mem.len_of hget, X.w.heap.size, by simp [Cx.born], rfl⟩
        refine ih (I.did S (X' := X.born id (.cells cur l.e)) (al' := al.filter fun q => decide (q.1 ≠ i)) hr hL ho hp rfl R' E' (fun _ _ h => E1.vr I.R h) hvr (fun n j u od oj h hne h2 h3 => ?_) (nodup_filter_map I.aln) (nodup_filter_map I.alu) fun j id h => (List.mem_filter.1 h).1) hsat hc'
        obtain ⟨e1, e2⟩ := I.lag n j u od oj h h2 h3
        refine ⟨e1, ?_⟩
        rcases e2 with e2 | e2 | ⟨e2, e3, l', id', e4, e5, e6, e7, e8, e9, e10⟩
        · exact .inl e2
        · exact .inr (.inl e2)
        · have hidne : id' ≠ id := fun e => by subst e; exact hne (snd_inj I.aln e7 hal)
          exact .inr (.inr ⟨e2, e3, l', id', e4, e5, e6, List.mem_filter.2 ⟨e7, by simpa using hne⟩, e8, e9, by simp [Cx.born, hidne, e10]⟩)
    · have hLK : ∀ p ∈ preds o, p ∈ rs.map (·.1) := fun p h => I.LK p (hp p h)
      rcases hsat with rfl | ⟨i', re, r, rfl⟩
      · exfalso
        have hpl := I.plan
        simp only [planOk, List.all_eq_true, List.contains_eq_mem, decide_eq_true_eq] at hpl
        exact him (hpl i (List.mem_range.2 (Array.getElem?_eq_some_iff.1 ho).1))
      · have hpl := I.plan
        simp only [planOk, Bool.and_eq_true, Bool.not_eq_true', List.contains_eq_mem, decide_eq_false_iff_not, decide_eq_true_eq, List.all_eq_true, Bool.or_eq_true, beq_iff_eq, List.any_eq_true] at hpl
        obtain ⟨⟨⟨⟨⟨⟨h1, h2⟩, h3⟩, h4⟩, h5⟩, h6⟩, h7⟩ := hpl
        have hii : i = i' := by
          rcases h5 i (List.mem_range.2 (Array.getElem?_eq_some_iff.1 ho).1) with (h | h) | ⟨p, hpm, hpn⟩
          · exact absurd h him
          · exact h
          · rw [predsAt_eq ho] at hpm; exact absurd (hLK p hpm) hpn
        subst hii
        have hop : ∀ t ∈ o.looksAt ops, ∀ u, (sig ops s0 rs)[t]? = some u → ∃ x, a.tmps[t]? = some x ∧ VR X u x := fun t ht u hu => I.opndE S h1 ho hp ht hu
        have hρ : ∀ x ∈ o.op.operands.toList, VR X (ev (sig ops s0 rs) x) (a.eval x) := ev_of (ops := ops) hop
        have hrun := I.run
        simp only [adraw, ho] at hrun
        rcases agd_split hrun with ⟨hg, hrun⟩ | ⟨hg, hrun⟩
        · rw [if_pos (agd_of (ops := ops) hop hg)]
          refine .inl (oper_ok' hE hrun I.R hρ fun Y v x a' hta hda hK R1 E1 hv => ?_)
          cases hre : re.all (rechk E.T ops s0 Y.M rs) with
          | false => rw [hre] at hK; exact hK.elim
          | true =>
            rw [hre] at hK
            have I2 := (I.act hta hda).doE S (v := v) (x := x) h1 ho hLK hp R1 (I.E0.trans E1 R0) (fun _ _ h => E1.vr I.R h) hv hK h7 (fun newer j u older oj hrs hjL hoj => ?_) E1.next
            · obtain ⟨X2, rs2, rest2, al2, hw2, I3, hs3⟩ := Inv.sat S R0 r I2
              rw [← hw2]
              exact ih I3 hs3 hc'
            · obtain ⟨e1, e2⟩ := I.lag newer j u older oj hrs hjL hoj
              refine ⟨e1, ?_⟩
              have hjm : j ∈ rs.map (·.1) := by rw [hrs]; simp
              rcases e2 with e2 | ⟨e2, e3, e4⟩ | ⟨e2, e3, l', id', e4, e5, e6, e7, e8, e9, e10⟩
              · exact .inl e2
              · have hjre : j ∈ re := by
                  rcases h6 j hjm with (h | h) | h
                  · rw [effAt_eq hoj, e1] at h; cases h
                  · have := I.inL ho h hp
                    rw [hjL] at this; cases this
                  · exact h
                have hnd := I.nd
                rw [hrs] at hnd
                simp only [List.map_append, List.map_cons] at hnd
                have hjn : j ∉ newer.map (·.1) := fun h => (List.nodup_append.1 hnd).2.2 j h j (by simp) rfl
                have hck := List.all_eq_true.1 hre j hjre
                unfold rechk at hck
                rw [hrs, olderOf_eq hjn, hoj] at hck
                simp only [e2, e3] at hck
                split at hck
                · rename_i v' hv'
                  rw [beqA_ok hck]
                  exact .inr (.inl ⟨e2, e3, hv'⟩)
                · cases hck
              · obtain ⟨b1, b2⟩ := E1.unborn id' _ e9 e10
                exact .inr (.inr ⟨e2, e3, l', id', e4, e5, e6, e7, e8, b1, b2⟩)
        · rw [if_neg (by rw [agd_of (ops := ops) hop hg]; decide)]
          have I2 := I.doE S (v := nothing) (x := Go.undef) h1 ho hLK hp I.R I.E0 (fun _ _ h => h) (nothing_ok X) hrun h7 I.lag (Nat.le_refl _)
          obtain ⟨X2, rs2, rest2, al2, hw2, I3, hs3⟩ := Inv.sat S R0 r I2
          rw [← hw2]
          exact ih I3 hs3 hc'
theorem region_ok (hE : EnvOk P E) (hmix : P.follows .mixedOrders = true) (R0 : Rl X0) {p : List PStep} (hp : planOf ops = some p) {X : Cx} {a : Act} {id : Nat} (R : Rl X) (E0 : Ev X0 X) (S : SR P X s0 a)
    (h : adraw E ops s0 p [] (fun s' M' => K' .normal s' M') X.M) : (Code.region id ops true).wp P (CS P X0 K') a X.w := by
  have hst : slotsOk ops (masks ops.toList) = true ∧ planOk ops (masks ops.toList) [] p = true := by
    unfold planOf at hp
    simp only at hp
    cases hb : (slotsOk ops (masks ops.toList) && planOk ops (masks ops.toList) [] (mkPlan ops (masks ops.toList) ops.size [])) with
    | false => rw [hb] at hp; cases hp
    | true =>
      rw [hb] at hp
      cases hp
      simpa using hb
  obtain ⟨R1, E1⟩ := X.drew_ok R
  have St := slotsOk_stat hst.1
  have S1 := S.mono E1.toEv0 R
  have hL0 : ∀ i, (Array.replicate ops.size false).getD i false = false := fun i => by
    rw [Array.getD_eq_getD_getElem?, Array.getElem?_replicate]
    split <;> rfl
  have I : Inv P E ops s0 (fun s M => K' .normal s M) X0 (Array.replicate ops.size false) a { X with w := X.w.drew } [] p [] :=
    ⟨R1, E0.trans E1 R0, S.defers, S.size, (by simp), h, hst.2, List.nodup_nil, fun i hi => (by rw [hL0] at hi; cases hi), fun _ _ h => (by cases h), fun i _ _ hi => (by rw [hL0] at hi; cases hi), fun newer _ _ _ _ h => (by simp at h),
      fun t v => ⟨fun ⟨_, _, _, h, _⟩ => (by cases h), fun _ hv => S1.get t v hv⟩, fun newer _ _ _ _ h => (by simp at h), List.nodup_nil, List.nodup_nil, fun _ _ h => (by cases h)⟩
  refine wp_region_any hmix ?_
  obtain ⟨X2, rs2, rest2, al2, hw2, I2, hs2⟩ := Inv.sat St R0 p I
  have := draw_ok hE St R0 ops.size I2 hs2 (by simp)
  rw [hw2] at this
  exact this
end
end Go.Abs
