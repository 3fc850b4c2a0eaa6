/- The walk through a drawn region. -/
import Derived.Test.YtbpnjpacioibnaaAbs9b
set_option linter.unusedVariables false
set_option linter.unusedSimpArgs false
namespace Go.Abs
open Go Go.RowKit
section
variable {P : Program} {E : Env} {ops : Array Oper} {s0 : List AV} {K : List AV → Mem → Prop} {X0 : Cx} {L : Array Bool} {a : Act} {X : Cx} {rs : RS} {rest : List PStep} {al : List (Nat × Nat)}
theorem predsAt_eq {i : Nat} {o : Oper} (h : ops[i]? = some o) : predsAt ops i = preds o := by simp [predsAt, h]
theorem effAt_eq {i : Nat} {o : Oper} (h : ops[i]? = some o) : effAt ops i = isEff o.op := by simp [effAt, h]
theorem toL {i : Nat} {o : Oper} : ops.toList[i]? = some o ↔ ops[i]? = some o := by simp
theorem splitAt {i : Nat} : ∀ {rs : RS}, i ∈ rs.map (·.1) → ∃ newer v older, rs = newer ++ (i, v) :: older
  | [], h => by simp at h
  | (j, v) :: r, h => by
    by_cases hij : i = j
    · subst hij; exact ⟨[], v, r, rfl⟩
    · simp only [List.map_cons, List.mem_cons, hij, false_or] at h
      obtain ⟨n, u, o, rfl⟩ := splitAt h
      exact ⟨(j, v) :: n, u, o, rfl⟩
/-- what is done stands on what was done -/
theorem Inv.down (I : Inv P E ops s0 K X0 L a X rs rest al) {newer older : RS} (hr : rs = newer ++ older) : ∀ (i : Nat) (o : Oper), ops[i]? = some o → i ∈ older.map (·.1) → ∀ p ∈ preds o, p ∈ older.map (·.1) := by
  intro i o ho hi p hp
  obtain ⟨n, v, od, rfl⟩ := splitAt hi
  have := I.hist (newer ++ n) i v od o (by rw [hr, List.append_assoc]) ho p hp
  simp only [List.map_append, List.map_cons, List.mem_append, List.mem_cons]
  exact .inr (.inr this)
theorem Inv.inK (I : Inv P E ops s0 K X0 L a X rs rest al) {i j : Nat} {o : Oper} (ho : ops[i]? = some o) (hb : ((masks ops.toList).getD i 0).testBit j = true) {newer older : RS} (hr : rs = newer ++ older) (hp : ∀ p ∈ preds o, p ∈ older.map (·.1)) : j ∈ older.map (·.1) :=
  masks_spec ops.toList (fun i => i ∈ older.map (·.1)) (fun i o h => I.down hr i o (toL.1 h)) i o j (toL.2 ho) hb hp
theorem Inv.inL (I : Inv P E ops s0 K X0 L a X rs rest al) {i j : Nat} {o : Oper} (ho : ops[i]? = some o) (hb : ((masks ops.toList).getD i 0).testBit j = true) (hp : ∀ p ∈ preds o, L.getD p false = true) : L.getD j false = true :=
  masks_spec ops.toList (fun i => L.getD i false = true) (fun i o h => I.Ld i o (toL.1 h)) i o j (toL.2 ho) hb hp
/-- an operand of what the world may do now, and the abstract machine has done -/
theorem Inv.opnd (I : Inv P E ops s0 K X0 L a X rs rest al) (S : Stat ops (masks ops.toList)) {newer older : RS} {i : Nat} {v : AV} {o : Oper} (hr : rs = newer ++ (i, v) :: older) (hL : L.getD i false = false) (ho : ops[i]? = some o)
    (hp : ∀ p ∈ preds o, L.getD p false = true) {t : Nat} (ht : t ∈ o.looksAt ops) {u : AV} (hu : (sig ops s0 older)[t]? = some u) : ∃ x, a.tmps[t]? = some x ∧ VR X u x := by
  have hnd := I.nd
  rw [hr] at hnd
  simp only [List.map_append, List.map_cons] at hnd
  have hio : i ∉ older.map (·.1) := by
    have := (List.nodup_append.1 hnd).2.1
    exact (List.nodup_cons.1 this).1
  have hpo := I.hist newer i v older o hr ho
  by_cases hw : ∃ j w oj, (j, w) ∈ rs ∧ L.getD j false = false ∧ ops[j]? = some oj ∧ oj.dst = some t
  · refine (I.slots t u).1 hw ?_
    rw [← hu]
    refine (sig_none fun k w hk ok hok hdk => ?_).symm
    obtain ⟨j, w', oj, hj, hjL, hoj, hdj⟩ := hw
    obtain rfl := S.uniq k j ok oj t hok hoj hdk hdj
    have hkm : k ∈ older.map (·.1) := List.mem_map.2 ⟨_, hk, rfl⟩
    have hne : i ≠ k := fun e => hio (e ▸ hkm)
    rcases S.ord i k o ok t ho hok hne ht hdk with hb | hb
    · have := I.inL ho hb hp
      rw [hjL] at this; cases this
    · exact hio (I.inK hok hb (newer := newer ++ [(i, v)]) (by simp [hr]) fun p hpk => I.down (newer := newer ++ [(i, v)]) (by simp [hr]) k ok hok hkm p hpk)
  · refine (I.slots t u).2 hw ?_
    rw [← hu, hr]
    have : newer ++ (i, v) :: older = (newer ++ [(i, v)]) ++ older := by simp
    rw [this]
    refine sig_append fun k w hk ok hok hdk => ?_
    have hkr : (k, w) ∈ rs := by rw [hr, this]; exact List.mem_append_left _ hk
    have hkL : L.getD k false = true := by
      cases hb : L.getD k false with
      | true => rfl
      | false => exact absurd ⟨k, w, ok, hkr, hb, hok, hdk⟩ hw
    have hne : i ≠ k := fun e => by subst e; rw [hL] at hkL; cases hkL
    have hkn : k ∉ older.map (·.1) := fun h => by
      have hk' : k ∈ (newer ++ [(i, v)]).map (·.1) := List.mem_map.2 ⟨_, hk, rfl⟩
      have hnd' : ((newer ++ [(i, v)]).map (·.1) ++ older.map (·.1)).Nodup := by simpa using hnd
      exact (List.nodup_append.1 hnd').2.2 k hk' k h rfl
    rcases S.ord i k o ok t ho hok hne ht hdk with hb | hb
    · exact hkn (I.inK ho hb (newer := newer ++ [(i, v)]) (by simp [hr]) hpo)
    · have := I.inL hok hb (I.Ld k ok hok hkL)
      rw [hL] at this; cases this
/-- an operand of the next effect -/
theorem Inv.opndE (I : Inv P E ops s0 K X0 L a X rs rest al) (S : Stat ops (masks ops.toList)) {i : Nat} {o : Oper} (hn : i ∉ rs.map (·.1)) (ho : ops[i]? = some o)
    (hp : ∀ p ∈ preds o, L.getD p false = true) {t : Nat} (ht : t ∈ o.looksAt ops) {u : AV} (hu : (sig ops s0 rs)[t]? = some u) : ∃ x, a.tmps[t]? = some x ∧ VR X u x := by
  refine (I.slots t u).2 (fun ⟨j, w, oj, hj, hjL, hoj, hdj⟩ => ?_) hu
  have hjm : j ∈ rs.map (·.1) := List.mem_map.2 ⟨_, hj, rfl⟩
  have hne : i ≠ j := fun e => hn (e ▸ hjm)
  rcases S.ord i j o oj t ho hoj hne ht hdj with hb | hb
  · have := I.inL ho hb hp
    rw [hjL] at this; cases this
  · exact hn (I.inK hoj hb (newer := []) (by simp) fun p hpk => I.down (newer := []) (by simp) j oj hoj hjm p hpk)
/-- operands by the slots -/
theorem ev_of {s : List AV} {o : Oper} (h : ∀ t ∈ o.looksAt ops, ∀ u, s[t]? = some u → ∃ x, a.tmps[t]? = some x ∧ VR X u x) : ∀ x ∈ o.op.operands.toList, VR X (ev s x) (a.eval x) := by
  intro x hx
  cases x with
  | const v => exact avOf_ok X v
  | global _ => simp only [Abs.ev, VR]
  | func f => simp only [Abs.ev, VR, Act.eval]; exact ⟨#[], #[], rfl, rfl, rfl⟩
  | tmp t =>
    have ht : t ∈ o.looksAt ops := List.mem_append_left _ (List.mem_filterMap.2 ⟨.tmp t, hx, rfl⟩)
    simp only [Abs.ev, Act.eval]
    cases hs : s[t]? with
    | none => rw [List.getD_eq_getElem?_getD, hs]; simp only [Option.getD_none, VR]
    | some v =>
      obtain ⟨y, hy, hv⟩ := h t ht v hs
      rw [List.getD_eq_getElem?_getD, hs, Array.getD_eq_getD_getElem?, hy]
      exact hv
theorem agd_of {s : List AV} {o : Oper} {b : Bool} (h : ∀ t ∈ o.looksAt ops, ∀ u, s[t]? = some u → ∃ x, a.tmps[t]? = some x ∧ VR X u x) (hg : agd ops s o.guard = some b) : Region.wanted o (yielded ops a.tmps) = b := by
  unfold agd at hg
  unfold Region.wanted
  cases ho : o.guard with
  | none => rw [ho] at hg; cases hg; rfl
  | some jw =>
    obtain ⟨j, want⟩ := jw
    rw [ho] at hg
    simp only at hg ⊢
    unfold yielded
    cases hd : (ops[j]?).bind (·.dst) with
    | none => rw [hd] at hg; cases hg; simp
    | some d =>
      have hm : d ∈ o.looksAt ops := List.mem_append_right _ (by rw [ho]; simp [hd])
      rw [hd] at hg
      simp only [Option.bind_some] at hg ⊢
      split at hg
      · rename_i c hc
        cases hg
        obtain ⟨x, hx, hv⟩ := h d hm _ hc
        simp only [VR] at hv
        subst hv
        rw [hx]
        cases c <;> cases want <;> rfl
      · rename_i vs hc
        cases hg
        obtain ⟨x, hx, hv⟩ := h d hm _ hc
        simp only [VR] at hv
        obtain ⟨l, rfl, _⟩ := hv
        rw [hx]
        rfl
      · cases hg
end
end Go.Abs
