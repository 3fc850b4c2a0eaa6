/- What reads, reads the same where more blocks are. -/
import Derived.Test.YtbpnjpacioibnaaAbs9c
set_option linter.unusedVariables false
set_option linter.unusedSimpArgs false
namespace Go.Abs
open Go Go.RowKit
section
variable {T : Tab} {M M' : Mem}
theorem live_mono (hm : ∀ (i : Nat) (o : AO), M.get i = some o → M'.get i = some o) {i g : Nat} (h : M.live i g = true) : M'.live i g = true := by
  obtain ⟨e, sz, fz, cs, hg, hl⟩ := live_get h
  unfold Mem.live; rw [hm _ _ hg]; subst hl; exact Nat.beq_refl _
theorem liveZ_mono (hm : ∀ (i : Nat) (o : AO), M.get i = some o → M'.get i = some o) {i g z : Nat} (h : M.liveZ i g z = true) : M'.liveZ i g z = true := by
  unfold Mem.liveZ at h ⊢
  cases hg : M.get i with
  | none => rw [hg] at h; cases h
  | some o => rw [hm _ _ hg]; rw [hg] at h; exact h
theorem aload_mono (hm : ∀ (i : Nat) (o : AO), M.get i = some o → M'.get i = some o) {t : TypeId} {a r : AV} (h : aload T M t a = some r) : aload T M' t a = some r := by
  cases a <;> simp only [aload] at h ⊢ <;> first | exact h | skip
  rename_i i g off
  cases hg : M.get i with
  | none => rw [hg] at h; cases h
  | some o => rw [hm _ _ hg]; rw [hg] at h; exact h
theorem bif_mono {α : Type} {b b' : Bool} {x : Option α} {r : α} (hb : b = true → b' = true) (h : (bif b then x else none) = some r) : (bif b' then x else none) = some r := by
  cases b with
  | false => cases h
  | true => rw [hb rfl]; exact h
theorem afieldA_mono (hm : ∀ (i : Nat) (o : AO), M.get i = some o → M'.get i = some o) {t : TypeId} {a r : AV} {f : Nat} (h : afieldA T M t a f = some r) : afieldA T M' t a f = some r := by
  unfold afieldA at h ⊢
  split at h <;> first | (cases h; done) | skip
  split at h <;> first | (cases h; done) | skip
  rename_i off _ fsz _
  revert h
  cases Nat.beq fsz 0 <;> intro h <;> first | (cases h; done) | skip
  simp only [cond_false] at h ⊢
  split at h <;> first | (cases h; done) | exact h | skip
  exact bif_mono (live_mono hm) h
theorem aindexA_mono (hm : ∀ (i : Nat) (o : AO), M.get i = some o → M'.get i = some o) {t : TypeId} {a i r : AV} (h : aindexA T M t a i = some r) : aindexA T M' t a i = some r := by
  unfold aindexA at h ⊢
  split at h <;> first | (cases h; done) | skip
  split at h <;> first | (cases h; done) | skip
  split at h <;> first | (cases h; done) | exact h | skip
  refine bif_mono (fun hb => ?_) h
  simp only [Bool.and_eq_true] at hb ⊢
  exact ⟨⟨live_mono hm hb.1.1, hb.1.2⟩, hb.2⟩
theorem aslice_mono (hm : ∀ (i : Nat) (o : AO), M.get i = some o → M'.get i = some o) {t : TypeId} {a r : AV} {lo hi mx : Option AV} (h : aslice T M t a lo hi mx = some r) : aslice T M' t a lo hi mx = some r := by
  unfold aslice at h ⊢
  split at h <;> first | (cases h; done) | exact h | skip
  split at h <;> first | (cases h; done) | skip
  split at h <;> first | (cases h; done) | exact h | skip
  obtain ⟨l, hl, h⟩ := Option.bind_eq_some_iff.1 h
  obtain ⟨u, hu, h⟩ := Option.bind_eq_some_iff.1 h
  rw [hl, Option.bind_some, hu, Option.bind_some]
  refine bif_mono (fun hb => ?_) h
  simp only [Bool.and_eq_true] at hb ⊢
  exact ⟨⟨liveZ_mono hm hb.1.1, hb.1.2⟩, hb.2⟩
theorem aeq_mono (hm : ∀ (i : Nat) (o : AO), M.get i = some o → M'.get i = some o) {te : TE} {a b : AV} {r : Bool} (h : aeq T te M a b = some r) : aeq T te M' a b = some r := by
  unfold aeq at h ⊢
  split at h <;> first | (cases h; done) | exact h | skip
  case h_3 => split at h <;> first | (cases h; done) | exact bif_mono (live_mono hm) h
  case h_4 => split at h <;> first | (cases h; done) | exact bif_mono (live_mono hm) h
  case h_7 =>
    split at h <;> first | (cases h; done) | skip
    split at h <;> first | (cases h; done) | skip
    refine bif_mono (fun hb => ?_) h
    simp only [Bool.and_eq_true] at hb ⊢
    exact ⟨⟨live_mono hm hb.1.1, live_mono hm hb.1.2⟩, hb.2⟩
  case h_9 => split at h <;> first | (cases h; done) | exact bif_mono (live_mono hm) h
  case h_10 => split at h <;> first | (cases h; done) | exact bif_mono (live_mono hm) h
theorem abinop_mono (hm : ∀ (i : Nat) (o : AO), M.get i = some o → M'.get i = some o) {op : BinOp} {t : TypeId} {a b r : AV} (h : abinop T M op t a b = some r) : abinop T M' op t a b = some r := by
  unfold abinop at h ⊢
  split at h
  · exact h
  · split at h <;> first | (cases h; done) | skip
    split at h <;> first | (cases h; done) | skip
    · obtain ⟨c, hc, rfl⟩ := Option.map_eq_some_iff.1 h
      simp only [aeq_mono hm hc, Option.map_some]
    · obtain ⟨c, hc, rfl⟩ := Option.map_eq_some_iff.1 h
      simp only [aeq_mono hm hc, Option.map_some]
theorem alen_mono (hm : ∀ (i : Nat) (o : AO), M.get i = some o → M'.get i = some o) {t : TypeId} {a r : AV} (h : alen T M t a = some r) : alen T M' t a = some r := by
  unfold alen at h ⊢
  split at h <;> first | (cases h; done) | exact h | skip
  exact bif_mono (live_mono hm) h
theorem alookup_mono (hm : ∀ (i : Nat) (o : AO), M.get i = some o → M'.get i = some o) {t : TypeId} {m k r : AV} {ok : Bool} (h : alookup T M t m k ok = some r) : alookup T M' t m k ok = some r := by
  unfold alookup at h ⊢
  split at h <;> first | (cases h; done) | skip
  split at h <;> first | (cases h; done) | skip
  rename_i tk te _ _
  revert h
  cases kfits tk.k k <;> intro h <;> first | (cases h; done) | skip
  simp only [cond_true] at h ⊢
  split at h <;> first | (cases h; done) | exact h | skip
  split at h <;> first | (cases h; done) | skip
  rename_i es c hg
  rw [hm _ _ hg]
  exact h
theorem aread_mono (hm : ∀ (i : Nat) (o : AO), M.get i = some o → M'.get i = some o) {ρ : Operand → AV} {o : Op} {r : AV} (h : aread T ρ M o = some r) : aread T ρ M' o = some r := by
  unfold aread at h ⊢
  split at h <;> first | exact h | skip
  case h_5 => exact aload_mono hm h
  case h_6 =>
    split at h <;> first | (cases h; done) | exact h | skip
    exact bif_mono (live_mono hm) h
  case h_7 => exact abinop_mono hm h
  case h_12 => exact aslice_mono hm h
  case h_13 => exact afieldA_mono hm h
  case h_15 => exact aindexA_mono hm h
  case h_17 => exact alookup_mono hm h
  case h_19 =>
    split at h <;> first | (cases h; done) | exact alen_mono hm h
end
end Go.Abs
