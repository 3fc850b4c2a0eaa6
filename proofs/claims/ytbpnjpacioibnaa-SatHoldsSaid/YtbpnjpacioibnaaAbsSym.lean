/- Loops of the abstract machine by an invariant. -/
import Derived.Test.YtbpnjpacioibnaaAbs11
set_option linter.unusedVariables false
set_option linter.unusedSimpArgs false
namespace Go.Abs
open Go Go.RowKit
/-- the environment in which functions are proved one by one -/
def symL (B : KK → List AV → Mem → Prop) (K : KK) (s : List AV) (M : Mem) : Prop := ∃ n, rounds B K n s M
abbrev symE (P : Program) (T : Tab) (H : FuncId → Bool) : Env := ⟨T, Sem P, H, symL⟩
theorem symE_ok {P : Program} {T : Tab} {H : FuncId → Bool} (hT : TabOk P T) (hH : HarmOk P H) : EnvOk P (symE P T H) :=
  ⟨fun g hg first ar cap => hH g hg first ar cap, hT, fun _ _ _ _ h => h, fun _ _ _ _ h => h⟩
section
variable {P : Program}
theorem Sem.mono {f : FuncId} {args : List AV} {M : Mem} {K K' : Post} (h : Sem P f args M K) (hk : ∀ r M', K r M' → K' r M') : Sem P f args M K' := by
  refine ⟨h.1, fun X xs hM R hx => (h.2 X xs hM R hx).mono ?_⟩
  rintro e w' ⟨Y, r, x, h1, h2, h3, h4⟩
  exact ⟨Y, r, x, h1, h2, hk _ _ h3, h4⟩
theorem rounds_mono {B : KK → List AV → Mem → Prop} (hB : ∀ K K' : KK, (∀ e s M, K e s M → K' e s M) → ∀ s M, B K s M → B K' s M) {K K' : KK} (hk : ∀ e s M, K e s M → K' e s M) : ∀ n s M, rounds B K n s M → rounds B K' n s M
  | 0, s, M, h => h
  | n + 1, s, M, h => by
    simp only [rounds] at h ⊢
    refine hB _ _ ?_ s M h
    intro e s' M' h'
    cases e
    · exact rounds_mono hB hk n s' M' h'
    · exact hk _ _ _ h'
    · exact hk _ _ _ h'
variable {T : Tab} {H : FuncId → Bool}
theorem aoper_mono {ρ : Operand → AV} {o : Op} {M : Mem} {K K' : Post} (hk : ∀ r M', K r M' → K' r M') (h : aoper (symE P T H) ρ o M K) : aoper (symE P T H) ρ o M K' := by
  unfold aoper at h ⊢
  split at h
  · obtain ⟨v, hv, h⟩ := bindP_some h
    exact bindP_i hv (hk _ _ h)
  · obtain ⟨l, hl, h⟩ := bindP_some h
    refine bindP_i hl ?_
    cases hc : l.cs.all AV.cell with
    | false => rw [hc] at h; exact h
    | true => rw [hc] at h; exact hk _ _ h
  · obtain ⟨⟨v, M'⟩, hv, h⟩ := bindP_some h
    exact bindP_i hv (hk _ _ h)
  · unfold acall at h ⊢
    split at h
    · split at h
      · exact Sem.mono h hk
      · exact h
    · exact h
  · unfold adefer at h ⊢
    split at h
    · split at h
      · rename_i g _ _ _
        cases hc : H g with
        | false => simp only [symE, hc] at h ⊢; exact h
        | true => simp only [symE, hc] at h ⊢; exact hk _ _ h
      · exact h
    · exact h
  · exact h
theorem aops_mono {ops : Array Oper} {K K' : List AV → Mem → Prop} (hk : ∀ s M, K s M → K' s M) : ∀ (l : List Oper) (s : List AV) (M : Mem), aops (symE P T H) ops l K s M → aops (symE P T H) ops l K' s M
  | [], s, M, h => hk s M h
  | o :: r, s, M, h => by
    simp only [aops] at h ⊢
    split at h
    · rename_i b _
      cases b with
      | true => exact aoper_mono (fun v M' h' => aops_mono hk r _ _ h') h
      | false => exact aops_mono hk r _ _ h
    · exact h
theorem adraw_mono {ops : Array Oper} {s0 : List AV} {K K' : List AV → Mem → Prop} (hk : ∀ s M, K s M → K' s M) : ∀ (l : List PStep) (rs : RS) (M : Mem), adraw (symE P T H) ops s0 l rs K M → adraw (symE P T H) ops s0 l rs K' M
  | [], rs, M, h => hk _ _ h
  | .op i :: r, rs, M, h => by
    simp only [adraw] at h ⊢
    split at h
    · exact h
    · split at h
      · rename_i b _
        cases b with
        | true =>
          simp only [cond_true] at h ⊢
          split at h
          · obtain ⟨v, hv, h⟩ := bindP_some h
            exact bindP_i hv (adraw_mono hk r _ _ h)
          · obtain ⟨l, hl, h⟩ := bindP_some h
            refine bindP_i hl ?_
            cases hc : l.cs.all AV.cell with
            | false => rw [hc] at h; exact h
            | true => rw [hc] at h; exact adraw_mono hk r _ _ h
          · exact h
        | false => exact adraw_mono hk r _ _ h
      · exact h
  | .eff i re :: r, rs, M, h => by
    simp only [adraw] at h ⊢
    split at h
    · exact h
    · split at h
      · rename_i b _
        cases b with
        | true =>
          simp only [cond_true] at h ⊢
          refine aoper_mono (fun v M' h' => ?_) h
          revert h'
          cases re.all (rechk (symE P T H).T ops s0 M' rs) with
          | false => exact id
          | true => exact adraw_mono hk r _ _
        | false => exact adraw_mono hk r _ _ h
      · exact h
theorem acode_mono : ∀ (c : Code) {K K' : KK} (hk : ∀ e s M, K e s M → K' e s M) (s : List AV) (M : Mem), acode (symE P T H) c K s M → acode (symE P T H) c K' s M := by
  intro c
  induction c with
  | skip => intro K K' hk s M h; exact hk _ _ _ h
  | seq a b iha ihb =>
    intro K K' hk s M h
    simp only [acode] at h ⊢
    refine iha ?_ s M h
    intro e s' M' h'
    cases e
    · exact ihb hk s' M' h'
    · exact hk _ _ _ h'
    · exact hk _ _ _ h'
  | cond c a b iha ihb =>
    intro K K' hk s M h
    simp only [acode] at h ⊢
    split at h
    · rename_i t _
      cases t with
      | true => exact iha hk s M h
      | false => exact ihb hk s M h
    · exact h
  | block id c ih =>
    intro K K' hk s M h
    simp only [acode] at h ⊢
    refine ih ?_ s M h
    intro e s' M' h'
    cases e with
    | normal => exact hk _ _ _ h'
    | exit j =>
      simp only at h' ⊢
      revert h'
      cases Nat.beq j id <;> exact hk _ _ _
    | ret => exact hk _ _ _ h'
  | exit id => intro K K' hk s M h; exact hk _ _ _ h
  | ret => intro K K' hk s M h; exact hk _ _ _ h
  | loop c ih =>
    intro K K' hk s M h
    simp only [acode] at h ⊢
    obtain ⟨n, hn⟩ := h
    exact ⟨n, rounds_mono (fun K K' hk s M h => ih hk s M h) hk n s M hn⟩
  | region id ops draw =>
    intro K K' hk s M h
    simp only [acode] at h ⊢
    cases draw with
    | true =>
      simp only [cond_true] at h ⊢
      split at h
      · exact adraw_mono (fun s M h => hk _ _ _ h) _ _ _ h
      · exact h
    | false => exact aops_mono (fun s M h => hk _ _ _ h) _ _ _ h
  | rangeFunc => intro K K' hk s M h; exact h
  | scope => intro K K' hk s M h; exact h
  | label => intro K K' hk s M h; exact h
  | goto => intro K K' hk s M h; exact h
  | refuse => intro K K' hk s M h; exact h
/-- a loop by an invariant and a measure -/
theorem loop_inv {c : Code} {K : KK} {ι : Type} (I : ι → List AV → Mem → Prop) (m : ι → Nat) {i : ι} {s : List AV} {M : Mem} (h0 : I i s M)
    (step : ∀ i s M, I i s M → acode (symE P T H) c (fun e s' M' => match e with | .normal => ∃ j, m j < m i ∧ I j s' M' | e => K e s' M') s M) :
    symL (fun K' s' M' => acode (symE P T H) c K' s' M') K s M := by
  have key : ∀ n i, m i < n → ∀ s M, I i s M → rounds (fun K' s' M' => acode (symE P T H) c K' s' M') K n s M := by
    intro n
    induction n with
    | zero => intro i hi; omega
    | succ n ih =>
      intro i hi s M hI
      simp only [rounds]
      refine acode_mono c ?_ s M (step i s M hI)
      intro e s' M' h'
      cases e with
      | normal =>
        obtain ⟨j, hj, hI'⟩ := h'
        exact ih j (by omega) s' M' hI'
      | exit j => exact h'
      | ret => exact h'
  exact ⟨m i + 1, key _ i (Nat.lt_succ_self _) s M h0⟩
end
end Go.Abs
