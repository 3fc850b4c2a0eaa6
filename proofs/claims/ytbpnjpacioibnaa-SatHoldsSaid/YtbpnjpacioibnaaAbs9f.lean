/- Code holds. -/
import Derived.Test.YtbpnjpacioibnaaAbs9e
set_option linter.unusedVariables false
set_option linter.unusedSimpArgs false
namespace Go.Abs
open Go Go.RowKit
section
variable {P : Program} {E : Env} {X0 : Cx}
theorem code_ok (hE : EnvOk P E) (hmix : P.follows .mixedOrders = true) (R0 : Rl X0) : ∀ (c : Code) (K : KK) (X : Cx) (s : List AV) (a : Act), acode E c K s X.M → Rl X → Ev X0 X → SR P X s a → c.wp P (CS P X0 K) a X.w := by
  intro c
  induction c with
  | skip => intro K X s a h R E0 S; exact wp_skip ⟨.normal, X, s, trivial, h, R, E0, rfl, S⟩
  | region id ops draw =>
    intro K X s a h R E0 S
    simp only [acode] at h
    cases draw with
    | true =>
      simp only [cond_true] at h
      split at h
      · rename_i p hp; exact region_ok hE hmix R0 hp R E0 S h
      · exact h.elim
    | false => exact wp_region_list (aops_ok hE R0 _ h R E0 S)
  | seq x y ihx ihy =>
    intro K X s a h R E0 S
    simp only [acode] at h
    refine wp_seq (Code.wp_mono ?_ (ihx _ X s a h R E0 S))
    rintro e a' w' ⟨ex, Y, s', h1, h2, R1, E1, rfl, S1⟩
    cases ex <;> cases e <;> simp only [ExR] at h1
    · exact ihy K Y s' a' h2 R1 E1 S1
    · subst h1; exact ⟨.exit _, Y, s', rfl, h2, R1, E1, rfl, S1⟩
    · exact ⟨.ret, Y, s', trivial, h2, R1, E1, rfl, S1⟩
  | cond c x y ihx ihy =>
    intro K X s a h R E0 S
    simp only [acode] at h
    have hv := S.ev c
    split at h
    · rename_i t ht
      rw [ht] at hv
      simp only [VR] at hv
      refine wp_cond hv ?_
      cases t with
      | true => exact ihx K X s a h R E0 S
      | false => exact ihy K X s a h R E0 S
    · exact h.elim
  | block id c ih =>
    intro K X s a h R E0 S
    simp only [acode] at h
    refine wp_block (Code.wp_mono ?_ (ih _ X s a h R E0 S))
    rintro e a' w' ⟨ex, Y, s', h1, h2, R1, E1, rfl, S1⟩
    cases ex <;> cases e <;> simp only [ExR] at h1
    · exact ⟨.normal, Y, s', trivial, h2, R1, E1, rfl, S1⟩
    · rename_i i j
      subst h1
      simp only at h2
      simp only [Exit.inBlock]
      by_cases hij : i = id
      · subst hij
        rw [if_pos rfl]
        rw [Nat.beq_refl] at h2
        exact ⟨.normal, Y, s', trivial, h2, R1, E1, rfl, S1⟩
      · rw [if_neg hij]
        have : Nat.beq i id = false := by cases hh : Nat.beq i id with | false => rfl | true => exact absurd (Nat.eq_of_beq_eq_true hh) hij
        rw [this] at h2
        exact ⟨.exit i, Y, s', rfl, h2, R1, E1, rfl, S1⟩
    · exact ⟨.ret, Y, s', trivial, h2, R1, E1, rfl, S1⟩
  | exit id => intro K X s a h R E0 S; exact wp_exit ⟨.exit id, X, s, rfl, h, R, E0, rfl, S⟩
  | ret => intro K X s a h R E0 S; exact wp_ret ⟨.ret, X, s, trivial, h, R, E0, rfl, S⟩
  | loop c ih =>
    intro K X s a h R E0 S
    simp only [acode] at h
    obtain ⟨n, hn⟩ := hE.L _ _ _ _ h
    refine wp_loop_ghost (fun n a' w' => ∃ Y s', Y.w = w' ∧ rounds (fun K' s' M' => acode E c K' s' M') K n s' Y.M ∧ Rl Y ∧ Ev X0 Y ∧ SR P Y s' a') n ⟨X, s, rfl, hn, R, E0, S⟩ ?_
    rintro n a' w' ⟨Y, s', rfl, hr, R1, E1, S1⟩
    cases n with
    | zero => exact hr.elim
    | succ n =>
      refine Code.wp_mono ?_ (ih _ Y s' a' hr R1 E1 S1)
      rintro e a2 w2 ⟨ex, Z, s2, h1, h2, R2, E2, rfl, S2⟩
      cases ex <;> cases e <;> simp only [ExR] at h1
      · exact ⟨n, Nat.lt_succ_self n, Z, s2, rfl, h2, R2, E2, S2⟩
      · subst h1; exact ⟨.exit _, Z, s2, rfl, h2, R2, E2, rfl, S2⟩
      · exact ⟨.ret, Z, s2, trivial, h2, R2, E2, rfl, S2⟩
  | rangeFunc => intro K X s a h; exact h.elim
  | scope => intro K X s a h; exact h.elim
  | label => intro K X s a h; exact h.elim
  | goto => intro K X s a h; exact h.elim
  | refuse => intro K X s a h; exact h.elim
end
end Go.Abs
