/- The operations that change nothing, all of them. -/
import Derived.Test.YtbpnjpacioibnaaAbs2
set_option linter.unusedVariables false
set_option linter.unusedSimpArgs false
namespace Go.Abs
open Go Go.RowKit
section
variable {P : Program} {X : Cx}
theorem equal_run (t : TypeId) : ∃ n, ∀ x y, Op.equal t x y = Op.equalIn (n + 1) t x y := ⟨9999, fun _ _ => rfl⟩
theorem eq_bool {t : TypeId} (hd : P.underlying t = some .bool) (a b : Bool) (w : World) : (Op.equal t (.bool a) (.bool b)).run P w = .ok (a == b) w := by
  obtain ⟨n_, hn⟩ := equal_run t; rw [hn]; simp [Op.equalIn, run_underlying hd]
theorem eq_ptr_nil {t e : TypeId} (hd : P.underlying t = some (.pointer e)) (a : Option Addr) (w : World) : (Op.equal t (.pointer a) (.pointer none)).run P w = .ok a.isNone w := by
  obtain ⟨n_, hn⟩ := equal_run t; rw [hn]; cases a <;> simp [Op.equalIn, run_underlying hd]
theorem eq_nil_ptr {t e : TypeId} (hd : P.underlying t = some (.pointer e)) (a : Option Addr) (w : World) : (Op.equal t (.pointer none) (.pointer a)).run P w = .ok a.isNone w := by
  obtain ⟨n_, hn⟩ := equal_run t; rw [hn]; cases a <;> simp [Op.equalIn, run_underlying hd]
theorem eq_slice_nil {t e : TypeId} (hd : P.underlying t = some (.slice e)) (a : Option Addr) (n c : Nat) (w : World) : (Op.equal t (.slice a n c) (.slice none 0 0)).run P w = .ok a.isNone w := by
  obtain ⟨n_, hn⟩ := equal_run t; rw [hn]; cases a <;> simp [Op.equalIn, run_underlying hd]
theorem eq_nil_slice {t e : TypeId} (hd : P.underlying t = some (.slice e)) (a : Option Addr) (n c : Nat) (w : World) : (Op.equal t (.slice none 0 0) (.slice a n c)).run P w = .ok a.isNone w := by
  obtain ⟨n_, hn⟩ := equal_run t; rw [hn]; cases a <;> simp [Op.equalIn, run_underlying hd]
theorem eq_map_nil {t k e : TypeId} (hd : P.underlying t = some (.map k e)) (w : World) : (Op.equal t (.map none) (.map none)).run P w = .ok true w := by
  obtain ⟨n_, hn⟩ := equal_run t; rw [hn]; simp [Op.equalIn, run_underlying hd]
theorem eq_func {t : TypeId} {a : Array TypeId} {b : Array TypeId} {c : Bool} (hd : P.underlying t = some (.func a b c)) (w : World) :
    (Op.equal t .nilFunc .nilFunc).run P w = .ok true w ∧ (∀ f p q, (Op.equal t .nilFunc (.func f p q)).run P w = .ok false w) ∧ ∀ f p q, (Op.equal t (.func f p q) .nilFunc).run P w = .ok false w := by
  refine ⟨?_, fun f p q => ?_, fun f p q => ?_⟩ <;> (obtain ⟨n_, hn⟩ := equal_run t; rw [hn]; simp [Op.equalIn, run_underlying hd])
theorem eq_iface {t : TypeId} {a : Array (String × TypeId)} (hd : P.underlying t = some (.interface a)) (w : World) :
    (∀ u x, (Op.equal t .nilIface (.iface u x)).run P w = .ok false w) ∧ ∀ u x, (Op.equal t (.iface u x) .nilIface).run P w = .ok false w := by
  refine ⟨fun f p => ?_, fun f p => ?_⟩ <;> (obtain ⟨n_, hn⟩ := equal_run t; rw [hn]; simp [Op.equalIn, run_underlying hd])
/-- two blocks that the walk owns -/
theorem eq_ptrs {t e : TypeId} (hd : P.underlying t = some (.pointer e)) {i : TypeInfo} (he : P.info? e = some i) (hz : i.size ≠ 0) {b c o p : Nat} {w : World} {cb cc : Array Value} {eb ec : TypeId}
    (hb : w.heap[b]? = some (.cells cb eb (0, 0))) (hc : w.heap[c]? = some (.cells cc ec (0, 0))) :
    (Op.equal t (.pointer (some ⟨b, o, none⟩)) (.pointer (some ⟨c, p, none⟩))).run P w = .ok (Nat.beq b c && Nat.beq o p) w := by
  obtain ⟨n_, hn⟩ := equal_run t
  rw [hn]
  have hs : (sizeOf e).run P w = .ok i.size w := by simp [sizeOf, typeInfo, he]
  have hfb : ∀ k, w.frozen? ⟨b, k, none⟩ = false := fun k => by simp [World.frozen?, hb]
  have hfc : ∀ k, w.frozen? ⟨c, k, none⟩ = false := fun k => by simp [World.frozen?, hc]
  have hsb : w.shape? b = some (eb, cb.size) := by simp [World.shape?, hb]
  have hsc : w.shape? c = some (ec, cc.size) := by simp [World.shape?, hc]
  by_cases hbc : b = c
  · subst hbc
    have e1 : Nat.beq b b = true := Nat.beq_refl b
    rw [e1, Bool.true_and]
    have : ((⟨b, o, none⟩ : Addr) == ⟨b, p, none⟩) = Nat.beq o p := by
      by_cases h : o = p
      · subst h; simp
      · have h1 : Nat.beq o p = false := by cases hh : Nat.beq o p with | false => rfl | true => exact absurd (Nat.eq_of_beq_eq_true hh) h
        rw [h1]
        first | (simp; done) | (simp; exact h)
    simp [Op.equalIn, run_underlying hd, hs, hz, sameAddr]
    exact this
  · have e1 : Nat.beq b c = false := by cases hh : Nat.beq b c with | false => rfl | true => exact absurd (Nat.eq_of_beq_eq_true hh) hbc
    rw [e1, Bool.false_and]
    simp [Op.equalIn, run_underlying hd, hs, hz, sameAddr, hbc, hfb, hfc, noView, viewAt, hsb, hsc, mayBeOne, stringish]
def noNum : Value → Bool
  | .int .. | .string _ | .float .. | .complex .. => false
  | _ => true
theorem binOp_eq {x : Value} (h : noNum x = true) (t : TypeId) (y : Value) : binOp .eql t x y = (do pure (.bool (← Op.equal t x y))) ∧ binOp .neq t x y = (do pure (.bool (!(← Op.equal t x y)))) := by
  cases x <;> first | (exfalso; simp [noNum] at h; done) | exact ⟨by cases y <;> rfl, by cases y <;> rfl⟩
theorem aeq_ok {T : Tab} (hT : TabOk P T) (R : Rl X) {t : TypeId} {te : TE} (hte : T t = some te) {a b : AV} {r : Bool} {x y : Value} (h : aeq T te X.M a b = some r) (hx : VR X a x) (hy : VR X b y) :
    (Op.equal t x y).run P X.w = .ok r X.w ∧ (∀ op (p q : Operand), eqGuard op t p q x y = pure ()) ∧ noNum x = true := by
  obtain ⟨_, d, _, _, hd, _, _, _, hk, _⟩ := hT.get hte
  unfold aeq at h
  split at h
  case h_1 =>
    split at h <;> cases h
    rename_i hk'
    rw [hk'] at hk
    obtain rfl := mkTK_bool hk
    simp only [VR] at hx hy
    subst hx hy
    exact ⟨eq_bool hd _ _ _, fun op p q => eqGuard_at_bool _ _ _ _ _ _, rfl⟩
  case h_2 =>
    split at h <;> cases h
    rename_i hk'
    rw [hk'] at hk
    obtain rfl := mkTK_ptr hk
    simp only [VR] at hx hy
    subst hx hy
    exact ⟨eq_ptr_nil hd _ _, fun op p q => eqGuard_at_pointer _ _ _ _ _ _, rfl⟩
  case h_3 =>
    rename_i i g o
    split at h
    · rename_i hk'
      rw [hk'] at hk
      obtain rfl := mkTK_ptr hk
      cases hl : X.M.live i g with
      | false => rw [hl] at h; cases h
      | true =>
        rw [hl] at h
        obtain rfl := Option.some.inj h
        obtain ⟨b, hb, rfl⟩ := hy.ptr_live hl
        simp only [VR] at hx
        subst hx
        exact ⟨eq_nil_ptr hd _ _, fun op p q => eqGuard_at_pointer _ _ _ _ _ _, rfl⟩
    · cases h
  case h_4 =>
    rename_i i g o
    split at h
    · rename_i hk'
      rw [hk'] at hk
      obtain rfl := mkTK_ptr hk
      cases hl : X.M.live i g with
      | false => rw [hl] at h; cases h
      | true =>
        rw [hl] at h
        obtain rfl := Option.some.inj h
        obtain ⟨b, hb, rfl⟩ := hx.ptr_live hl
        simp only [VR] at hy
        subst hy
        exact ⟨eq_ptr_nil hd _ _, fun op p q => eqGuard_at_pointer _ _ _ _ _ _, rfl⟩
    · cases h
  case h_5 =>
    split at h <;> cases h
    rename_i hk'
    rw [hk'] at hk
    obtain rfl := mkTK_ptr hk
    simp only [VR] at hx hy
    obtain ⟨b, off, cur, e, fz, rfl, _⟩ := hy
    subst hx
    exact ⟨eq_nil_ptr hd _ _, fun op p q => eqGuard_at_pointer _ _ _ _ _ _, rfl⟩
  case h_6 =>
    split at h <;> cases h
    rename_i hk'
    rw [hk'] at hk
    obtain rfl := mkTK_ptr hk
    simp only [VR] at hx hy
    obtain ⟨b, off, cur, e, fz, rfl, _⟩ := hx
    subst hy
    exact ⟨eq_ptr_nil hd _ _, fun op p q => eqGuard_at_pointer _ _ _ _ _ _, rfl⟩
  case h_7 =>
    rename_i i g o j h' p
    split at h
    · rename_i el hk'
      rw [hk'] at hk
      obtain rfl := mkTK_ptr hk
      split at h
      · rename_i tl htl
        cases hl : (X.M.live i g && X.M.live j h' && Nat.blt 0 tl.sz) with
        | false => rw [hl] at h; cases h
        | true =>
          rw [hl] at h
          obtain rfl := Option.some.inj h
          simp only [Bool.and_eq_true] at hl
          obtain ⟨ie, _, _, hie, _, _, hs, _⟩ := hT.get htl
          have hz : ie.size ≠ 0 := by have := Nat.le_of_ble_eq_true hl.2; omega
          obtain ⟨b, hb, rfl⟩ := hx.ptr_live hl.1.1
          obtain ⟨c, hc, rfl⟩ := hy.ptr_live hl.1.2
          obtain ⟨_, _, _, _, hg1, _⟩ := live_get hl.1.1
          obtain ⟨_, _, _, _, hg2, _⟩ := live_get hl.1.2
          obtain ⟨⟨cb, hcb, _⟩, _⟩ := R.cells i b _ _ _ _ hg1 hb
          obtain ⟨⟨cc, hcc, _⟩, _⟩ := R.cells j c _ _ _ _ hg2 hc
          refine ⟨?_, fun op p q => eqGuard_at_pointer _ _ _ _ _ _, rfl⟩
          rw [eq_ptrs hd hie hz hcb hcc]
          have : Nat.beq b c = Nat.beq i j := by
            by_cases hij : i = j
            · subst hij
              rw [hb] at hc
              obtain rfl := Option.some.inj hc
              rw [Nat.beq_refl, Nat.beq_refl]
            · have e1 : Nat.beq i j = false := by cases hh : Nat.beq i j with | false => rfl | true => exact absurd (Nat.eq_of_beq_eq_true hh) hij
              have e2 : Nat.beq b c = false := by cases hh : Nat.beq b c with | false => rfl | true => exact absurd (R.inj _ _ _ hb (Nat.eq_of_beq_eq_true hh ▸ hc)) hij
              rw [e1, e2]
          rw [this]
      · cases h
    · cases h
  case h_8 =>
    split at h <;> cases h
    rename_i hk'
    rw [hk'] at hk
    obtain rfl := mkTK_slice hk
    simp only [VR] at hx hy
    subst hx hy
    exact ⟨eq_slice_nil hd _ _ _ _, fun op p q => eqGuard_at_slice _ _ _ _ _ _ _ _, rfl⟩
  case h_9 =>
    rename_i i g o n
    split at h
    · rename_i hk'
      rw [hk'] at hk
      obtain rfl := mkTK_slice hk
      cases hl : X.M.live i g with
      | false => rw [hl] at h; cases h
      | true =>
        rw [hl] at h
        obtain rfl := Option.some.inj h
        obtain ⟨_, _, _, _, b, cap, _, _, _, _, _, rfl, _⟩ := hy.ref_live hl
        simp only [VR] at hx
        subst hx
        exact ⟨eq_nil_slice hd _ _ _ _, fun op p q => eqGuard_at_slice _ _ _ _ _ _ _ _, rfl⟩
    · cases h
  case h_10 =>
    rename_i i g o n
    split at h
    · rename_i hk'
      rw [hk'] at hk
      obtain rfl := mkTK_slice hk
      cases hl : X.M.live i g with
      | false => rw [hl] at h; cases h
      | true =>
        rw [hl] at h
        obtain rfl := Option.some.inj h
        obtain ⟨_, _, _, _, b, cap, _, _, _, _, _, rfl, _⟩ := hx.ref_live hl
        simp only [VR] at hy
        subst hy
        exact ⟨eq_slice_nil hd _ _ _ _, fun op p q => eqGuard_at_slice _ _ _ _ _ _ _ _, rfl⟩
    · cases h
  case h_11 =>
    split at h <;> cases h
    rename_i hk'
    rw [hk'] at hk
    obtain rfl := mkTK_slice hk
    simp only [VR] at hx hy
    subst hx
    rcases hy with ⟨h0, _⟩ | ⟨b, off, cap, cur, e, fz, rfl, _⟩
    · cases h0
    · exact ⟨eq_nil_slice hd _ _ _ _, fun op p q => eqGuard_at_slice _ _ _ _ _ _ _ _, rfl⟩
  case h_12 =>
    split at h <;> cases h
    rename_i hk'
    rw [hk'] at hk
    obtain rfl := mkTK_slice hk
    simp only [VR] at hx hy
    subst hy
    rcases hx with ⟨h0, _⟩ | ⟨b, off, cap, cur, e, fz, rfl, _⟩
    · cases h0
    · exact ⟨eq_slice_nil hd _ _ _ _, fun op p q => eqGuard_at_slice _ _ _ _ _ _ _ _, rfl⟩
  case h_13 =>
    split at h <;> cases h
    rename_i hk'
    rw [hk'] at hk
    obtain rfl := mkTK_map hk
    simp only [VR] at hx hy
    subst hx hy
    exact ⟨eq_map_nil hd _, fun op p q => eqGuard_at_map _ _ _ _ _ _, rfl⟩
  case h_14 =>
    split at h <;> cases h
    rename_i hk'
    rw [hk'] at hk
    obtain ⟨_, _, _, rfl⟩ := mkTK_func hk
    simp only [VR] at hx hy
    subst hx hy
    exact ⟨(eq_func hd _).1, fun op p q => eqGuard_at_nilFunc _ _ _ _ _, rfl⟩
  case h_15 =>
    split at h <;> cases h
    rename_i hk'
    rw [hk'] at hk
    obtain ⟨_, _, _, rfl⟩ := mkTK_func hk
    simp only [VR] at hx hy
    subst hx
    obtain ⟨_, _, rfl, _⟩ := hy
    exact ⟨(eq_func hd _).2.1 _ _ _, fun op p q => eqGuard_at_nilFunc _ _ _ _ _, rfl⟩
  case h_16 =>
    split at h <;> cases h
    rename_i hk'
    rw [hk'] at hk
    obtain ⟨_, _, _, rfl⟩ := mkTK_func hk
    simp only [VR] at hx hy
    subst hy
    obtain ⟨_, _, rfl, _⟩ := hx
    exact ⟨(eq_func hd _).2.2 _ _ _, fun op p q => eqGuard_at_func _ _ _ _ _ _ _ _, rfl⟩
  case h_17 =>
    split at h <;> cases h
    rename_i hk'
    rw [hk'] at hk
    obtain ⟨_, rfl⟩ := mkTK_iface hk
    simp only [VR] at hx hy
    subst hx
    obtain ⟨_, rfl, _⟩ := hy
    exact ⟨(eq_iface hd _).1 _ _, fun op p q => eqGuard_nil_iface _ _ _ _ _ _, rfl⟩
  case h_18 =>
    split at h <;> cases h
    rename_i hk'
    rw [hk'] at hk
    obtain ⟨_, rfl⟩ := mkTK_iface hk
    simp only [VR] at hx hy
    subst hy
    obtain ⟨_, rfl, _⟩ := hx
    exact ⟨(eq_iface hd _).2 _ _, fun op p q => eqGuard_at_iface _ _ _ _ _ _ _, rfl⟩
  case h_19 => cases h
theorem abinop_ok {T : Tab} (hT : TabOk P T) (R : Rl X) {op : BinOp} {t : TypeId} {a b r : AV} {x y : Value} {p q : Operand} (h : abinop T X.M op t a b = some r) (hx : VR X a x) (hy : VR X b y) :
    ∃ z, ((do eqGuard op t p q x y; binOp op t x y : Sem Value)).run P X.w = .ok z X.w ∧ VR X r z := by
  unfold abinop at h
  split at h
  · rename_i v hv
    obtain rfl := Option.some.inj h
    exact abin_ok hv hx hy
  · rename_i hn
    split at h
    · rename_i te hte
      split at h
      · obtain ⟨c, hc, rfl⟩ := Option.map_eq_some_iff.1 h
        obtain ⟨h1, h2, h3⟩ := aeq_ok hT R hte hc hx hy
        exact ⟨.bool c, by rw [h2, (binOp_eq h3 _ _).1]; simp [h1], by simp only [VR]⟩
      · obtain ⟨c, hc, rfl⟩ := Option.map_eq_some_iff.1 h
        obtain ⟨h1, h2, h3⟩ := aeq_ok hT R hte hc hx hy
        exact ⟨.bool !c, by rw [h2, (binOp_eq h3 _ _).2]; simp [h1], by simp only [VR]⟩
      · cases h
    · cases h
end
end Go.Abs
