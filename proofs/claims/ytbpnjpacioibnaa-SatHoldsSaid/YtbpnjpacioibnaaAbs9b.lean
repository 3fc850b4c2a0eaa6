/- Regions whose order is drawn: the world may lag behind the abstract machine's order. -/
import Derived.Test.YtbpnjpacioibnaaAbs9
set_option linter.unusedVariables false
set_option linter.unusedSimpArgs false
namespace Go.Abs
open Go Go.RowKit

theorem foldl_bits (f : Nat → Nat) (j : Nat) : ∀ (l : List Nat) (s : Nat), (l.foldl (fun s p => s ||| 2 ^ p ||| f p) s).testBit j = true → s.testBit j = true ∨ ∃ p ∈ l, j = p ∨ (f p).testBit j = true
  | [], s, h => .inl h
  | p :: l, s, h => by
    rw [List.foldl_cons] at h
    rcases foldl_bits f j l _ h with h | ⟨q, hq, h⟩
    · rw [Nat.testBit_or, Nat.testBit_or, Bool.or_eq_true, Bool.or_eq_true, Nat.testBit_two_pow] at h
      rcases h with (h | h) | h
      · exact .inl h
      · exact .inr ⟨p, by simp, .inl (of_decide_eq_true h).symm⟩
      · exact .inr ⟨p, by simp, .inr h⟩
    · exact .inr ⟨q, by simp [hq], h⟩
theorem snocInd {α : Type} {p : List α → Prop} (h0 : p []) (h1 : ∀ l o, p l → p (l ++ [o])) (l : List α) : p l := by
  have key : ∀ l : List α, p l.reverse := fun l => by
    induction l with
    | nil => exact h0
    | cons o l ih => rw [List.reverse_cons]; exact h1 _ o ih
  simpa using key l.reverse
theorem masks_snoc (l : List Oper) (o : Oper) : masks (l ++ [o]) = maskStep (masks l) o := by simp [masks]
theorem masks_len : ∀ l : List Oper, (masks l).length = l.length := by
  refine snocInd rfl fun l o ih => ?_
  rw [masks_snoc]; simp [maskStep, ih]
/-- what stands ahead of an operation -/
theorem masks_spec : ∀ (l : List Oper) (D : Nat → Prop), (∀ (i : Nat) (o : Oper), l[i]? = some o → D i → ∀ p ∈ preds o, D p) → ∀ (i : Nat) (o : Oper) (j : Nat), l[i]? = some o → ((masks l).getD i 0).testBit j = true → (∀ p ∈ preds o, D p) → D j := by
  refine snocInd (fun D _ i o j h => by simp at h) fun l o' ih => ?_
  · intro D hD i o j hi hb hp
    have hD' : ∀ (i : Nat) (o : Oper), l[i]? = some o → D i → ∀ p ∈ preds o, D p := fun i o h => hD i o (by
      rw [List.getElem?_append_left (List.getElem?_eq_some_iff.1 h).1]; exact h)
    rw [masks_snoc, maskStep] at hb
    by_cases hlt : i < l.length
    · rw [List.getElem?_append_left hlt] at hi
      have : ((masks l ++ [(preds o').foldl (fun s p => s ||| 2 ^ p ||| (masks l).getD p 0) 0]).getD i 0) = (masks l).getD i 0 := by
        rw [List.getD_eq_getElem?_getD, List.getD_eq_getElem?_getD, List.getElem?_append_left (by rw [masks_len]; exact hlt)]
      rw [this] at hb
      exact ih D hD' i o j hi hb hp
    · have hil : i = l.length := by
        have := (List.getElem?_eq_some_iff.1 hi).1; simp at this; omega
      subst hil
      rw [List.getElem?_append_right (Nat.le_refl _)] at hi
      simp at hi
      subst hi
      have e : ((masks l ++ [(preds o').foldl (fun s p => s ||| 2 ^ p ||| (masks l).getD p 0) 0]).getD l.length 0) = (preds o').foldl (fun s p => s ||| 2 ^ p ||| (masks l).getD p 0) 0 := by
        rw [List.getD_eq_getElem?_getD, List.getElem?_append_right (Nat.le_of_eq (masks_len l)), masks_len]; simp
      rw [e] at hb
      rcases foldl_bits _ j _ 0 hb with h | ⟨p, hpm, h⟩
      · simp at h
      · rcases h with rfl | h
        · exact hp _ hpm
        · by_cases hpl : p < l.length
          · have hpo : l[p]? = some l[p] := List.getElem?_eq_getElem hpl
            exact ih D hD' p _ j hpo h (hD' p _ hpo (hp p hpm))
          · rw [List.getD_eq_getElem?_getD, List.getElem?_eq_none (by rw [masks_len]; omega)] at h
            simp at h

mutual
theorem beqA_ok : ∀ {a b : AV}, beqA a b = true → a = b
  | .undef, b, h => by cases b <;> simp_all [beqA]
  | .nilS, b, h => by cases b <;> simp_all [beqA]
  | .nilP, b, h => by cases b <;> simp_all [beqA]
  | .nilF, b, h => by cases b <;> simp_all [beqA]
  | .nilM, b, h => by cases b <;> simp_all [beqA]
  | .nilI, b, h => by cases b <;> simp_all [beqA]
  | .bool a, b, h => by cases b <;> simp_all [beqA]
  | .int k a, b, h => by cases b <;> simp_all [beqA]
  | .str a, b, h => by cases b <;> simp_all [beqA]
  | .row a m, b, h => by
    cases b <;> simp [beqA] at h
    rw [beqAs_ok h.1, h.2]
  | .ref a b c d, x, h => by cases x <;> simp [beqA] at h; simp [h]
  | .own .., x, h => by cases x <;> simp [beqA] at h
  | .ptr a b c, x, h => by cases x <;> simp [beqA] at h; simp [h]
  | .rptr a, b, h => by
    cases b <;> simp [beqA] at h
    rw [beqAs_ok h]
  | .agg a, b, h => by
    cases b <;> simp [beqA] at h
    rw [beqAs_ok h]
  | .tup a, b, h => by
    cases b <;> simp [beqA] at h
    rw [beqAs_ok h]
  | .func f p q, b, h => by
    cases b <;> simp [beqA] at h
    rw [h.1.1, beqAs_ok h.1.2, beqAs_ok h.2]
  | .map a, b, h => by cases b <;> simp_all [beqA]
  | .iter a, b, h => by cases b <;> simp_all [beqA]
  | .iface t a, b, h => by
    cases b <;> simp [beqA] at h
    rw [h.1, beqA_ok h.2]
theorem beqAs_ok : ∀ {a b : List AV}, beqAs a b = true → a = b
  | [], b, h => by cases b <;> simp_all [beqAs]
  | x :: l, b, h => by
    cases b <;> simp [beqAs] at h
    rw [beqA_ok h.1, beqAs_ok h.2]
end

structure Stat (ops : Array Oper) (ms : List Nat) : Prop where
  uniq : ∀ (i j : Nat) (oi oj : Oper) (t : Tmp), ops[i]? = some oi → ops[j]? = some oj → oi.dst = some t → oj.dst = some t → i = j
  ord : ∀ (i j : Nat) (oi oj : Oper) (t : Tmp), ops[i]? = some oi → ops[j]? = some oj → i ≠ j → t ∈ oi.looksAt ops → oj.dst = some t → (ms.getD i 0).testBit j = true ∨ (ms.getD j 0).testBit i = true
theorem slotsOk_stat {ops : Array Oper} {ms : List Nat} (h : slotsOk ops ms = true) : Stat ops ms := by
  have key : ∀ (i j : Nat) (oi oj : Oper) t, ops[i]? = some oi → ops[j]? = some oj → oj.dst = some t → i ≠ j → oi.dst ≠ some t ∧ (t ∈ oi.looksAt ops → (ms.getD i 0).testBit j = true ∨ (ms.getD j 0).testBit i = true) := by
    intro i j oi oj t hi hj ht hne
    have h1 := List.all_eq_true.1 h i (List.mem_range.2 (Array.getElem?_eq_some_iff.1 hi).1)
    have h2 := List.all_eq_true.1 h1 j (List.mem_range.2 (Array.getElem?_eq_some_iff.1 hj).1)
    simp only [hi, hj, ht, Bool.or_eq_true, Bool.and_eq_true, beq_iff_eq, hne, false_or, bne_iff_ne, Bool.not_eq_true', List.contains_eq_mem, decide_eq_false_iff_not] at h2
    refine ⟨h2.1, fun hm => ?_⟩
    rcases h2.2 with (h3 | h3) | h3
    · exact absurd hm h3
    · exact .inl h3
    · exact .inr h3
  refine ⟨fun i j oi oj t hi hj h1 h2 => ?_, fun i j oi oj t hi hj hne hm hd => (key i j oi oj t hi hj hd hne).2 hm⟩
  by_cases hij : i = j
  · exact hij
  · exact absurd h1 (key i j oi oj t hi hj h2 hij).1

section
variable {ops : Array Oper} {s0 : List AV}
theorem sig_len : ∀ rs : RS, (sig ops s0 rs).length = s0.length
  | [] => rfl
  | (i, v) :: r => by
    simp only [sig, aput]
    split <;> simp [sig_len r]
/-- a slot that nobody wrote -/
theorem sig_none {t : Nat} : ∀ {rs : RS}, (∀ i v, (i, v) ∈ rs → ∀ o, ops[i]? = some o → o.dst ≠ some t) → (sig ops s0 rs)[t]? = s0[t]?
  | [], _ => rfl
  | (i, v) :: r, h => by
    have ih := sig_none (rs := r) (t := t) fun j u hj => h j u (by simp [hj])
    simp only [sig]
    cases ho : ops[i]? with
    | none => simpa [aput] using ih
    | some o =>
      have := h i v (by simp) o ho
      simp only [Option.bind_some]
      cases hd : o.dst with
      | none => simpa [aput] using ih
      | some d =>
        have hne : d ≠ t := fun e => this (by rw [hd, e])
        simp only [aput]
        rw [List.getElem?_set_ne hne]
        exact ih
theorem sig_append {t : Nat} : ∀ {newer older : RS}, (∀ i v, (i, v) ∈ newer → ∀ o, ops[i]? = some o → o.dst ≠ some t) → (sig ops s0 (newer ++ older))[t]? = (sig ops s0 older)[t]?
  | [], older, _ => rfl
  | (i, v) :: r, older, h => by
    have ih := sig_append (newer := r) (older := older) (t := t) fun j u hj => h j u (by simp [hj])
    simp only [List.cons_append, sig]
    cases ho : ops[i]? with
    | none => simpa [aput] using ih
    | some o =>
      have := h i v (by simp) o ho
      simp only [Option.bind_some]
      cases hd : o.dst with
      | none => simpa [aput] using ih
      | some d =>
        have hne : d ≠ t := fun e => this (by rw [hd, e])
        simp only [aput]
        rw [List.getElem?_set_ne hne]
        exact ih
end
theorem olderOf_spec {j : Nat} : ∀ {rs : RS} {v : AV} {older : RS}, olderOf j rs = some (v, older) → ∃ newer, rs = newer ++ (j, v) :: older ∧ j ∉ newer.map (·.1)
  | [], v, older, h => by cases h
  | (i, u) :: r, v, older, h => by
    simp only [olderOf] at h
    cases hb : Nat.beq i j with
    | true =>
      rw [hb] at h
      cases h
      obtain rfl := Nat.eq_of_beq_eq_true hb
      exact ⟨[], rfl, by simp⟩
    | false =>
      rw [hb] at h
      obtain ⟨newer, rfl, hn⟩ := olderOf_spec h
      refine ⟨(i, u) :: newer, rfl, ?_⟩
      have : i ≠ j := fun e => by subst e; rw [Nat.beq_refl] at hb; cases hb
      simp only [List.map_cons, List.mem_cons, not_or]
      exact ⟨Ne.symm this, hn⟩

/-- what is known of an operation that the abstract machine has done and the world has not -/
def Lag (E : Env) (ops : Array Oper) (s0 : List AV) (X0 X : Cx) (al : List (Nat × Nat)) (i : Nat) (v : AV) (older : RS) (o : Oper) : Prop :=
  isEff o.op = false ∧
  ((agd ops (sig ops s0 older) o.guard = some false ∧ v = nothing) ∨
   (agd ops (sig ops s0 older) o.guard = some true ∧ opk o.op = .read ∧ aread E.T (ev (sig ops s0 older)) X.M o.op = some v) ∨
   (agd ops (sig ops s0 older) o.guard = some true ∧ opk o.op = .alloc ∧ ∃ l id, aalloc E.T (ev (sig ops s0 older)) o.op = some l ∧ l.cs.all AV.cell = true ∧ v = l.val id ∧ (i, id) ∈ al ∧ X0.M.next ≤ id ∧ X.M.get id = some l.obj ∧ X.ι id = none))

structure Inv (P : Program) (E : Env) (ops : Array Oper) (s0 : List AV) (K : List AV → Mem → Prop) (X0 : Cx) (L : Array Bool) (a : Act) (X : Cx) (rs : RS) (rest : List PStep) (al : List (Nat × Nat)) : Prop where
  R : Rl X
  E0 : Ev X0 X
  defers : ∀ d ∈ a.defers, Harm P d
  size : s0.length = a.tmps.size
  Ls : L.size = ops.size
  run : adraw E ops s0 rest rs K X.M
  plan : planOk ops (masks ops.toList) (rs.map (·.1)) rest = true
  nd : (rs.map (·.1)).Nodup
  LK : ∀ i, L.getD i false = true → i ∈ rs.map (·.1)
  eff : ∀ i v, (i, v) ∈ rs → effAt ops i = true → L.getD i false = true
  Ld : ∀ i o, ops[i]? = some o → L.getD i false = true → ∀ p ∈ preds o, L.getD p false = true
  hist : ∀ newer i v older o, rs = newer ++ (i, v) :: older → ops[i]? = some o → ∀ p ∈ preds o, p ∈ older.map (·.1)
  slots : ∀ (t : Nat) (v : AV), ((∃ i u o, (i, u) ∈ rs ∧ L.getD i false = false ∧ ops[i]? = some o ∧ o.dst = some t) → s0[t]? = some v → ∃ x, a.tmps[t]? = some x ∧ VR X v x) ∧
    ((¬ ∃ i u o, (i, u) ∈ rs ∧ L.getD i false = false ∧ ops[i]? = some o ∧ o.dst = some t) → (sig ops s0 rs)[t]? = some v → ∃ x, a.tmps[t]? = some x ∧ VR X v x)
  lag : ∀ newer i v older o, rs = newer ++ (i, v) :: older → L.getD i false = false → ops[i]? = some o → Lag E ops s0 X0 X al i v older o
  aln : (al.map (·.2)).Nodup
  alu : (al.map (·.1)).Nodup
  all : ∀ i id, (i, id) ∈ al → id < X.M.next ∧ i ∈ rs.map (·.1)
end Go.Abs
