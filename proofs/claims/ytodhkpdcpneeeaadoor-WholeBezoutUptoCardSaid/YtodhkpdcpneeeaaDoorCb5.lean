/- What the card rests on, part 5: words of the walk, the functions in Lean and that the code comes to them. No condition beyond those that each theorem names. -/
import Derived.Test.YtodhkpdcpneeeaaDoorCb4
set_option maxHeartbeats 8000000
set_option maxRecDepth 100000
namespace Go.Proofs.YtodhkpdcpneeeaaDoor.PurePDv
set_option linter.unusedVariables false
set_option linter.unusedSimpArgs false
open Go.RowKit Go.Proofs.YtodhkpdcpneeeaaDoorW.PrintWords Go.Proofs.YtodhkpdcpneeeaaDoorW.PrintLast Go.Proofs.YtodhkpdcpneeeaaDoorW.PrintMore Go.Proofs.YtodhkpdcpneeeaaDoor.PDv Go.Proofs.YtodhkpdcpneeeaaDoor Go.Proofs.YtodhkpdcpneeeaaDoor.Mine Big
theorem byLimb_l0 (a : List Int) (d : Int) (hd : 0 < d ∧ d < 18446744073709551616) (hl : a.length ≤ 8388608) (da : Dig 18446744073709551616 a) : ∀ (n : Nat) (q : List Int) (r i : Int), n ≤ a.length → i = (n : Int) - 1 → q.length = a.length → Dig 18446744073709551616 q → (∀ t, t < n → q.getD t 0 = 0) → 0 ≤ r ∧ r < d → val 18446744073709551616 q * d + r * 18446744073709551616 ^ n + val 18446744073709551616 (a.take n) = val 18446744073709551616 a →
    ∃ q2 r2, Ev (fun k => whole_amount_byLimb.l0 k a d q r i) (q2, r2) ∧ Rep 18446744073709551616 (val 18446744073709551616 a / d) q2 ∧ r2 = val 18446744073709551616 a % d := by
  intro n
  induction n with
  | zero =>
    intro q r i hn hi hq dq hz hr hv
    obtain ⟨q2, ⟨K, hK⟩, h1, h2, h3⟩ := whole_trimmed_ev (B := 18446744073709551616) (l := q) (by omega) dq
    have hv' : val 18446744073709551616 q * d + r = val 18446744073709551616 a := by
      rw [← hv]; simp [val]
    have hdiv : val 18446744073709551616 a / d = val 18446744073709551616 q := div_eq hd.1 (by omega) (by rw [Int.add_mul, Int.one_mul]; omega)
    refine ⟨q2, r, ⟨K + 1, fun k hk => ?_⟩, ⟨h1, h2, by rw [h3, hdiv]⟩, ?_⟩
    · obtain ⟨k, rfl⟩ : ∃ j, k = j + 1 := ⟨k - 1, by omega⟩
      have hk' : whole_trimmed.f k q = some q2 := hK k (by omega)
      show whole_amount_byLimb.l0 (k + 1) a d q r i = _
      rw [whole_amount_byLimb.l0, if_neg (by omega), hk', Option.bind_some]
    · have h4 := Int.mul_ediv_add_emod (val 18446744073709551616 a) d
      rw [hdiv, Int.mul_comm] at h4
      omega
  | succ n ih =>
    intro q r i hn hi hq dq hz hr hv
    have hi' : i = (n : Int) := by omega
    subst hi'
    have ga := getD_dig (by decide) da n
    obtain ⟨K, hK⟩ := Div64_ev (a0 := r) (a1 := a.getD n 0) (a2 := d) hr ga hd.2
    have h1 := Int.mul_ediv_add_emod (r * 18446744073709551616 + a.getD n 0) d
    have h2 := Int.emod_nonneg (r * 18446744073709551616 + a.getD n 0) (Int.ne_of_gt hd.1)
    have h3 := Int.emod_lt_of_pos (r * 18446744073709551616 + a.getD n 0) hd.1
    have h4 : 0 ≤ (r * 18446744073709551616 + a.getD n 0) / d := Int.ediv_nonneg (by omega) (by omega)
    have h5 : (r * 18446744073709551616 + a.getD n 0) / d < 18446744073709551616 := Int.ediv_lt_of_lt_mul hd.1 (by omega)
    generalize (r * 18446744073709551616 + a.getD n 0) / d = g at *
    generalize hr' : (r * 18446744073709551616 + a.getD n 0) % d = r' at *
    clear hr'
    obtain ⟨q2, r2, ⟨J, hJ⟩, hq2⟩ := ih (q.set n g) r' ((n : Int) - 1) (by omega) rfl (by simp [hq]) (dq.set n ⟨h4, h5⟩) (fun t ht => by rw [getD_set_ne _ _ _ _ (by omega)]; exact hz t (by omega)) ⟨h2, h3⟩ (by
      rw [← hv, val_set_getD _ _ _ _ (by omega), hz n (by omega), val_take_getD, Int.sub_zero, Int.pow_succ, Int.add_mul]
      generalize (18446744073709551616 : Int) ^ n = W
      have e1 : g * W * d = d * g * W := by rw [Int.mul_comm (g * W), ← Int.mul_assoc]
      have e2 : r * (W * 18446744073709551616) = r * 18446744073709551616 * W := by rw [Int.mul_comm W, ← Int.mul_assoc]
      have e3 : (d * g + r') * W = (r * 18446744073709551616 + a.getD n 0) * W := by rw [h1]
      rw [Int.add_mul, Int.add_mul] at e3
      rw [e1, e2]
      omega)
    refine ⟨q2, r2, ⟨K + J + 1, fun k hk => ?_⟩, hq2⟩
    obtain ⟨k, rfl⟩ : ∃ j, k = j + 1 := ⟨k - 1, by omega⟩
    have e1 : bits_Div64.f k r (a.getD n 0) d = _ := hK k (by omega)
    have e2 := hJ k (by omega)
    show whole_amount_byLimb.l0 (k + 1) a d q r (n : Int) = _
    rw [whole_amount_byLimb.l0, if_pos (by omega), if_pos (by omega), if_pos (by omega), rd_getD, e1, Option.bind_some, if_pos (by omega), Int.toNat_natCast, w64 _ (by omega)]
    exact e2
theorem byLimb_ev (a : List Int) (d : Int) (hd : 0 < d ∧ d < 18446744073709551616) (hl : a.length ≤ 8388608) (da : Dig 18446744073709551616 a) :
    ∃ q2, Ev (fun k => whole_amount_byLimb.f k a d) (q2, val 18446744073709551616 a % d) ∧ Rep 18446744073709551616 (val 18446744073709551616 a / d) q2 := by
  have hz : ∀ t, (List.replicate a.length (0 : Int)).getD t 0 = 0 := fun t => by
    simp [List.getD_eq_getElem?_getD, List.getElem?_replicate]; split <;> rfl
  obtain ⟨q2, r2, ⟨K, hK⟩, h1, h2⟩ := byLimb_l0 a d hd hl da a.length (List.replicate a.length 0) 0 ((a.length : Int) - 1) (Nat.le_refl _) rfl (by simp) (Dig.rep (by decide) _) (fun t _ => hz t) (by omega) (by rw [val_replicate, List.take_length]; simp)
  subst h2
  refine ⟨q2, ⟨K, fun k hk => ?_⟩, h1⟩
  show whole_amount_byLimb.f k a d = _
  rw [whole_amount_byLimb.f, if_pos (by omega), Int.toNat_natCast, if_pos (by omega), w64 _ (by omega)]
  exact hK k hk
theorem down_or {s P Q : Int} (h : Sh s P Q) {o x : Int} (hx : 0 ≤ x ∧ x < 18446744073709551616) (ho : 0 ≤ o ∧ o < Q) : Go.bits .or .u64 o (x % P * Q) = o + x % P * Q := by
  obtain ⟨t, et, _⟩ := h.Q1
  obtain ⟨_, _, _, e4, e5, _⟩ := shl_parts h.Q0 h.P0 (by rw [Int.mul_comm]; exact h.PQ) hx
  have hQ := h.Q_le
  rw [(or_add t ⟨e4, e5⟩ ⟨x % P, by rw [et]⟩ (by rw [← et]; exact ho) (by omega)).2, Int.add_comm]
theorem down_out0 {s P Q : Int} (h : Sh s P Q) (h0 : ¬ s > 0) (x : Int) : x % P = 0 := by
  obtain ⟨t, et, es⟩ := h.P1
  have hs := h.s0
  have hP1 : P = 1 := by rw [et, ← es, show s = 0 from by omega]; rfl
  rw [hP1]; omega
def downSet (out : List Int) (i : Nat) (x P Q : Int) : List Int := if i = 0 then out.set 0 (x / P) else (out.set i (x / P)).set (i - 1) (out.getD (i - 1) 0 + x % P * Q)
theorem set_getD_same (l : List Int) (i : Nat) : l.set i (l.getD i 0) = l := by
  refine List.ext_getElem (by simp) fun j h1 h2 => ?_
  by_cases hj : i = j
  · subst hj
    rw [List.getElem_set_self, List.getD_eq_getElem?_getD, List.getElem?_eq_getElem h2, Option.getD_some]
  · rw [List.getElem_set_ne hj]
theorem down_step (k : Nat) {s P Q : Int} (h : Sh s P Q) (a out : List Int) (i : Nat) (hi : i < a.length) (hl : a.length ≤ 8388608) (ho : out.length = a.length) (da : Dig 18446744073709551616 a) (hz : out.getD i 0 = 0) (hw : 0 < i → 0 ≤ out.getD (i - 1) 0 ∧ out.getD (i - 1) 0 < Q) :
    whole_amount_down.l0 (k + 1) s out a (a.length : Int) (i : Int) = whole_amount_down.l0 k s (downSet out i (a.getD i 0) P Q) a (a.length : Int) ((i + 1 : Nat) : Int) := by
  have ga := getD_dig (by decide) da i
  have hwr := step_wrap i a.length hi hl
  have c1 : (i : Int) < (a.length : Int) := by omega
  have c2 : (0 : Int) ≤ (i : Int) := by omega
  have c3 : (i : Int) < (out.length : Int) := by omega
  have c4 := h.s0.1
  have c7 : (0 : Int) ≤ 64 - s := by have := h.s0; omega
  have hcount := h.count
  have hR := h.eqR (x := a.getD i 0)
  have hL := h.eqL' ga
  have hx : 0 ≤ a.getD i 0 / P ∧ a.getD i 0 / P < 18446744073709551616 := by
    have h1 := Int.ediv_nonneg ga.1 (Int.le_of_lt h.P0)
    have h2 := Int.ediv_le_self P ga.1
    exact ⟨h1, by omega⟩
  have hor0 := or_nil hx
  have ra := rd_getD a i
  have ro := rd_getD out i
  rw [hz] at ro
  by_cases hi0 : i = 0
  · subst hi0
    rw [whole_amount_down.l0, if_pos c1, if_pos c2, if_pos c1, if_pos c3, if_pos c4, Option.bind_some, ra, ro, hR, hor0, hwr, Int.toNat_natCast, if_neg (show ¬ ((0 : Nat) : Int) > 0 by decide), ite_self, downSet, if_pos rfl]
  · have hpr : wrap64 ((i : Int) - 1) = ((i - 1 : Nat) : Int) := by rw [w64 _ (by omega)]; omega
    have rp := rd_getD (out.set i (a.getD i 0 / P)) (i - 1)
    rw [getD_set_ne _ _ _ _ (by omega)] at rp
    have hor := down_or h ga (hw (by omega))
    have c5 : (0 : Int) ≤ ((i - 1 : Nat) : Int) := by omega
    have c6 : ((i - 1 : Nat) : Int) < (out.length : Int) := by omega
    have c8 : (i : Int) > 0 := by omega
    rw [whole_amount_down.l0, if_pos c1, if_pos c2, if_pos c1, if_pos c3, if_pos c4, Option.bind_some, ra, ro, hR, hor0, hwr, hpr, Int.toNat_natCast, Int.toNat_natCast, rp, downSet, if_neg hi0]
    by_cases h0 : s > 0
    · rw [if_pos h0, if_pos c8, if_pos c5, if_pos c6, hcount, if_pos c7, hL, hor]
    · rw [if_neg h0, down_out0 h h0, Int.zero_mul, Int.add_zero]
      have e := set_getD_same (out.set i (a.getD i 0 / P)) (i - 1)
      rw [getD_set_ne _ _ _ _ (by omega)] at e
      rw [e]
theorem down_val {P Q A x V : Int} (hP : 0 < P) (hPQ : P * Q = 18446744073709551616) (i : Nat) (hi : 0 < i) (hV : V = A / P) :
    V + (x / P) * 18446744073709551616 ^ i + (x % P * Q) * 18446744073709551616 ^ (i - 1) = (A + x * 18446744073709551616 ^ i) / P := by
  obtain ⟨j, rfl⟩ : ∃ j, i = j + 1 := ⟨i - 1, by omega⟩
  rw [Nat.add_sub_cancel, Int.pow_succ]
  generalize (18446744073709551616 : Int) ^ j = W
  rw [← hPQ, hV]
  have h1 := Int.mul_ediv_add_emod x P
  have e : A + x * (W * (P * Q)) = A + (x * W * Q) * P := by
    rw [Int.mul_comm P Q, ← Int.mul_assoc W, ← Int.mul_assoc x, ← Int.mul_assoc x W Q]
  rw [e, Int.add_mul_ediv_right _ _ (Int.ne_of_gt hP)]
  have e2 : x * W * Q = x / P * (W * (P * Q)) + x % P * Q * W := by
    have : x * W * Q = (P * (x / P) + x % P) * W * Q := by rw [h1]
    rw [this, Int.add_mul, Int.add_mul]
    congr 1
    · rw [Int.mul_comm P (x / P), Int.mul_assoc, Int.mul_assoc, ← Int.mul_assoc P W Q, Int.mul_comm P W, Int.mul_assoc]
    · rw [Int.mul_assoc, Int.mul_comm W Q, ← Int.mul_assoc]
  rw [e2]; omega
theorem down_l0 {s P Q : Int} (h : Sh s P Q) (a : List Int) (hl : a.length ≤ 8388608) (da : Dig 18446744073709551616 a) : ∀ (n i : Nat) (out : List Int), i + n = a.length → out.length = a.length → Dig 18446744073709551616 out → val 18446744073709551616 out = val 18446744073709551616 (a.take i) / P → (∀ t, i ≤ t → out.getD t 0 = 0) → (0 < i → out.getD (i - 1) 0 < Q) →
    ∃ r, Ev (fun k => whole_amount_down.l0 k s out a (a.length : Int) (i : Int)) r ∧ Rep 18446744073709551616 (val 18446744073709551616 a / P) r := by
  intro n
  induction n with
  | zero =>
    intro i out hi ho hd hv hz hw
    obtain ⟨r, ⟨K, hr⟩, h1, h2, h3⟩ := whole_trimmed_ev (B := 18446744073709551616) (l := out) (by omega) hd
    refine ⟨r, ⟨K + 1, fun k hk => ?_⟩, h1, h2, by rw [h3, hv, show i = a.length from by omega, List.take_length]⟩
    obtain ⟨k, rfl⟩ : ∃ j, k = j + 1 := ⟨k - 1, by omega⟩
    have hk' : whole_trimmed.f k out = some r := hr k (by omega)
    show whole_amount_down.l0 (k + 1) s out a (a.length : Int) (i : Int) = some r
    rw [whole_amount_down.l0, if_neg (by omega), hk', Option.bind_some]
  | succ n ih =>
    intro i out hi ho hd hv hz hw
    have hil : i < a.length := by omega
    have ga := getD_dig (by decide) da i
    have hzi := hz i (Nat.le_refl _)
    have hwi : 0 < i → 0 ≤ out.getD (i - 1) 0 ∧ out.getD (i - 1) 0 < Q := fun x => ⟨(getD_dig (by decide) hd (i - 1)).1, hw x⟩
    have hx1 := Int.ediv_nonneg ga.1 (Int.le_of_lt h.P0)
    have hx2 : a.getD i 0 / P < Q := Int.ediv_lt_of_lt_mul h.P0 (by rw [Int.mul_comm, h.PQ]; exact ga.2)
    have hQ := h.Q_le
    obtain ⟨_, _, _, e4, e5, _⟩ := shl_parts h.Q0 h.P0 (by rw [Int.mul_comm]; exact h.PQ) ga
    have hm1 : a.getD i 0 % P + 1 ≤ P := by have := Int.emod_lt_of_pos (a.getD i 0) h.P0; omega
    have hm2 := Int.mul_le_mul_of_nonneg_right hm1 (Int.le_of_lt h.Q0)
    rw [h.PQ, Int.add_mul, Int.one_mul] at hm2
    obtain ⟨r, ⟨K, hr⟩, hq⟩ := ih (i + 1) (downSet out i (a.getD i 0) P Q) (by omega) (by unfold downSet; split <;> simp [ho])
      (by unfold downSet; split
          · exact hd.set 0 ⟨hx1, by omega⟩
          · rename_i hi0
            have := hwi (by omega)
            exact (hd.set i ⟨hx1, by omega⟩).set (i - 1) ⟨by omega, by omega⟩)
      (by unfold downSet; split
          · rename_i hi0; subst hi0
            rw [val_set_getD _ _ _ _ (by omega), hzi, hv, val_take_getD]
            simp [val]
          · rename_i hi0
            rw [val_set_getD _ _ _ _ (by simp; omega), val_set_getD _ _ _ _ (by omega), getD_set_ne _ _ _ _ (by omega), hzi, val_take_getD, ← down_val h.P0 h.PQ i (by omega) hv, Int.sub_zero, show out.getD (i - 1) 0 + a.getD i 0 % P * Q - out.getD (i - 1) 0 = a.getD i 0 % P * Q from by omega])
      (by intro t ht
          unfold downSet; split
          · rw [getD_set_ne _ _ _ _ (by omega)]; exact hz t (by omega)
          · rw [getD_set_ne _ _ _ _ (by omega), getD_set_ne _ _ _ _ (by omega)]; exact hz t (by omega))
      (by intro _
          rw [Nat.add_sub_cancel]
          unfold downSet; split
          · rename_i hi0; subst hi0
            rw [getD_set_eq _ _ _ (by omega)]; exact hx2
          · rw [getD_set_ne _ _ _ _ (by omega), getD_set_eq _ _ _ (by omega)]; exact hx2)
    refine ⟨r, ⟨K + 1, fun k hk => ?_⟩, hq⟩
    obtain ⟨k, rfl⟩ : ∃ j, k = j + 1 := ⟨k - 1, by omega⟩
    show whole_amount_down.l0 (k + 1) s out a (a.length : Int) (i : Int) = some r
    rw [down_step k h a out i hil hl ho da hzi hwi]
    exact hr k (by omega)
theorem down_ev {s P Q : Int} (h : Sh s P Q) (a : List Int) (hl : a.length ≤ 8388608) (da : Dig 18446744073709551616 a) :
    ∃ r, Ev (fun k => whole_amount_down.f k a s) r ∧ Rep 18446744073709551616 (val 18446744073709551616 a / P) r := by
  have hz : ∀ t, (List.replicate a.length (0 : Int)).getD t 0 = 0 := fun t => by
    simp [List.getD_eq_getElem?_getD, List.getElem?_replicate]; split <;> rfl
  obtain ⟨r, ⟨K, hr⟩, hq⟩ := down_l0 h a hl da a.length 0 (List.replicate a.length 0) (by omega) (by simp) (Dig.rep (by decide) _) (by rw [val_replicate]; simp [val]) (fun t _ => hz t) (fun x => absurd x (by decide))
  refine ⟨r, ⟨K, fun k hk => ?_⟩, hq⟩
  show whole_amount_down.f k a s = some r
  rw [whole_amount_down.f, if_pos (by omega), Int.toNat_natCast, if_pos (by omega)]
  exact hr k hk
theorem normal {b v : List Int} {n : Nat} {P : Int} (hn : b.length = n) (hn2 : 2 ≤ n) (hv : v.length = n + 1) (db : Dig 18446744073709551616 b) (dv : Dig 18446744073709551616 v) (hP : 0 < P) (hdvd : ∃ Q, P * Q = 18446744073709551616) (h1 : 9223372036854775808 ≤ b.getD (n - 1) 0 * P) (h2 : b.getD (n - 1) 0 * P < 18446744073709551616) (hval : val 18446744073709551616 v = val 18446744073709551616 b * P) :
    val 18446744073709551616 (v.take n) = val 18446744073709551616 b * P ∧ 9223372036854775808 ≤ (v.take n).getD (n - 1) 0 ∧ 18446744073709551616 ^ (n - 1) * P ≤ val 18446744073709551616 b * P := by
  obtain ⟨m, rfl⟩ : ∃ m, n = m + 1 := ⟨n - 1, by omega⟩
  rw [Nat.add_sub_cancel] at *
  have eb : val 18446744073709551616 b = val 18446744073709551616 (b.take m) + b.getD m 0 * 18446744073709551616 ^ m := by
    have := val_take_getD 18446744073709551616 b m
    rw [List.take_of_length_le (show b.length ≤ m + 1 by omega)] at this
    exact this
  have b0 := val_nonneg (B := 18446744073709551616) (by decide) (db.take m)
  have b1 := val_lt (B := 18446744073709551616) (by decide) (db.take m)
  rw [List.length_take, Nat.min_eq_left (by omega)] at b1
  have hW := pow_pos (B := 18446744073709551616) (by decide) m
  obtain ⟨Q, hQ⟩ := hdvd
  have htop : (b.getD m 0 + 1) * P ≤ 18446744073709551616 := by
    refine Classical.byContradiction fun hx => ?_
    have h3 : b.getD m 0 * P < Q * P := by rw [Int.mul_comm Q P, hQ]; exact h2
    have h4 : b.getD m 0 < Q := Int.lt_of_mul_lt_mul_right h3 (Int.le_of_lt hP)
    have h5 := Int.mul_le_mul_of_nonneg_right (show b.getD m 0 + 1 ≤ Q by omega) (Int.le_of_lt hP)
    rw [Int.mul_comm Q P, hQ] at h5
    omega
  have hb1 : 1 ≤ b.getD m 0 := by
    refine Classical.byContradiction fun hx => ?_
    have := Int.mul_le_mul_of_nonneg_right (show b.getD m 0 ≤ 0 by omega) (Int.le_of_lt hP)
    omega
  generalize b.getD m 0 = t at *
  have hlow : 18446744073709551616 ^ m ≤ val 18446744073709551616 b := by
    have := Int.mul_le_mul_of_nonneg_right hb1 (Int.le_of_lt hW)
    omega
  have hup : val 18446744073709551616 b * P < 18446744073709551616 ^ (m + 1) := by
    have h3 : val 18446744073709551616 b < (t + 1) * 18446744073709551616 ^ m := by rw [Int.add_mul, Int.one_mul]; omega
    have h4 := Int.mul_lt_mul_of_pos_right h3 hP
    have h5 := Int.mul_le_mul_of_nonneg_right htop (Int.le_of_lt hW)
    have e : (t + 1) * 18446744073709551616 ^ m * P = (t + 1) * P * 18446744073709551616 ^ m := by
      rw [Int.mul_assoc, Int.mul_comm (18446744073709551616 ^ m) P, ← Int.mul_assoc]
    rw [Int.pow_succ, Int.mul_comm (18446744073709551616 ^ m)]
    omega
  have hvt := val_take_of_lt (n := m + 1) dv (by rw [hval]; exact hup)
  refine ⟨hvt.1.trans hval, ?_, Int.mul_le_mul_of_nonneg_right hlow (Int.le_of_lt hP)⟩
  have dvt := dv.take (m + 1)
  have ev : val 18446744073709551616 (v.take (m + 1)) = val 18446744073709551616 ((v.take (m + 1)).take m) + (v.take (m + 1)).getD m 0 * 18446744073709551616 ^ m := by
    have := val_take_getD 18446744073709551616 (v.take (m + 1)) m
    rw [List.take_of_length_le (show (v.take (m + 1)).length ≤ m + 1 by simp; omega)] at this
    exact this
  have v1 := val_lt (B := 18446744073709551616) (by decide) (dvt.take m)
  rw [List.length_take, Nat.min_eq_left (by simp; omega)] at v1
  rw [hvt.1, hval] at ev
  generalize (v.take (m + 1)).getD m 0 = x at *
  refine Classical.byContradiction fun hx => ?_
  have h6 := Int.mul_le_mul_of_nonneg_right (show x + 1 ≤ 9223372036854775808 by omega) (Int.le_of_lt hW)
  rw [Int.add_mul, Int.one_mul] at h6
  have h7 : t * 18446744073709551616 ^ m ≤ val 18446744073709551616 b := by omega
  have h8 := Int.mul_le_mul_of_nonneg_right h7 (Int.le_of_lt hP)
  have h9 := Int.mul_le_mul_of_nonneg_right h1 (Int.le_of_lt hW)
  have e : t * 18446744073709551616 ^ m * P = t * P * 18446744073709551616 ^ m := by
    rw [Int.mul_assoc, Int.mul_comm (18446744073709551616 ^ m) P, ← Int.mul_assoc]
  omega
theorem rep_word {v : Int} (h : 0 ≤ v ∧ v < 18446744073709551616) : ∃ r, Ev (fun k => whole_trimmed.f k [v]) r ∧ Rep 18446744073709551616 v r := by
  obtain ⟨r, hr, h1, h2, h3⟩ := whole_trimmed_ev (B := 18446744073709551616) (l := [v]) (by simp) (by rw [Dig.cons]; exact ⟨h, Dig.nil⟩)
  exact ⟨r, hr, h1, h2, by rw [h3]; simp [val]⟩
theorem quo_ev {A D : Int} {a b : List Int} (ha : Rep 18446744073709551616 A a) (hb : Rep 18446744073709551616 D b) (hD : 0 < D) (la : a.length ≤ 8388600) (lb : b.length ≤ 8388600) :
    ∃ q r, Ev (fun k => whole_amount_quo.f k a b) (q, r) ∧ Rep 18446744073709551616 (A / D) q ∧ Rep 18446744073709551616 (A % D) r := by
  have hA := ha.nonneg (by decide)
  obtain ⟨K1, h1⟩ := whole_amount_cmp_ev a b (by omega) (by omega) ha.dig hb.dig ha.top hb.top
  rw [ha.val, hb.val] at h1
  by_cases hc : A < D
  · refine ⟨[], a, ⟨K1, fun k hk => ?_⟩, ⟨Dig.nil, trivial, ?_⟩, ?_⟩
    · have e1 : whole_amount_cmp.f k a b = _ := h1 k hk
      show whole_amount_quo.f k a b = _
      rw [whole_amount_quo.f, e1, Option.bind_some, sg_neg (by omega), if_pos (by decide)]
    · rw [Int.ediv_eq_zero_of_lt hA hc]; rfl
    · rw [Int.emod_eq_of_lt hA hc]; exact ha
  · have hsg : ¬ sg (A - D) < 0 := by unfold sg; split <;> (try split) <;> omega
    have hbpos := (hb.pos_iff (by decide)).2 hD
    by_cases h1b : b.length = 1
    · obtain ⟨x, rfl⟩ := List.length_eq_one_iff.1 h1b
      have hx : x = D := by have := hb.val; simpa [val] using this
      have dx := hb.dig.get 0 (by simp)
      have dx' : 0 ≤ x ∧ x < 18446744073709551616 := dx
      obtain ⟨q, ⟨K2, h2⟩, hq⟩ := byLimb_ev a x (by omega) (by omega) ha.dig
      rw [ha.val, hx] at hq
      have hm0 := Int.emod_nonneg A (show x ≠ 0 by omega)
      have hm1 := Int.emod_lt_of_pos A (show 0 < x by omega)
      obtain ⟨r, ⟨K3, h3⟩, hr⟩ := rep_word (v := A % x) ⟨hm0, by omega⟩
      rw [hx] at hr
      refine ⟨q, r, ⟨K1 + K2 + K3, fun k hk => ?_⟩, hq, hr⟩
      have e1 : whole_amount_cmp.f k a [x] = _ := h1 k (by omega)
      have e2 : whole_amount_byLimb.f k a x = _ := h2 k (by omega)
      have e3 : whole_trimmed.f k [A % x] = _ := h3 k (by omega)
      rw [ha.val] at e2
      show whole_amount_quo.f k a [x] = _
      rw [whole_amount_quo.f, e1, Option.bind_some, if_neg hsg, if_pos (by rfl), show rd [x] 0 = x from rfl, e2, Option.bind_some, e3, Option.bind_some]
    · have hlen := len_of_le (by decide) ha.dig hb.dig hb.top (by rw [ha.val, hb.val]; omega)
      have hn2 : 2 ≤ b.length := by omega
      have gb := getD_dig (by decide) hb.dig (b.length - 1)
      have htop : b.getD (b.length - 1) 0 ≠ 0 := by
        have hne : b ≠ [] := by intro e; rw [e] at hn2; simp at hn2
        have := (Top_iff b).1 hb.top hne
        rw [List.getLast_eq_getElem] at this
        rw [List.getD_eq_getElem?_getD, List.getElem?_eq_getElem (by omega), Option.getD_some]
        exact this
      obtain ⟨s, P, Q, hs, hSh, hp1, hp2⟩ := clz (x := b.getD (b.length - 1) 0) (by omega)
      have hP0 := hSh.P0
      obtain ⟨v, ⟨K2, h2⟩, hvl, dv, hvv⟩ := up_ev hSh b lb hb.dig
      obtain ⟨u, ⟨K3, h3⟩, hul, du, huv⟩ := up_ev hSh a la ha.dig
      obtain ⟨n1, n2, n3⟩ := normal rfl hn2 hvl hb.dig dv hP0 ⟨Q, hSh.PQ⟩ hp1 hp2 hvv
      rw [hb.val] at n1 n3
      rw [ha.val] at huv
      have hvtl : (v.take b.length).length = b.length := by rw [List.length_take]; omega
      have hAl := ha.lt (by decide)
      have htopu : val 18446744073709551616 (u.drop (a.length - b.length + 1)) < val 18446744073709551616 (v.take b.length) := by
        rw [n1]
        have e := val_split 18446744073709551616 u (a.length - b.length + 1) (by omega)
        have t0 := val_nonneg (B := 18446744073709551616) (by decide) (du.take (a.length - b.length + 1))
        have hW := pow_pos (B := 18446744073709551616) (by decide) (a.length - b.length + 1)
        refine Classical.byContradiction fun hx => ?_
        have h5 := Int.mul_le_mul_of_nonneg_left (show 18446744073709551616 ^ (b.length - 1) * P ≤ val 18446744073709551616 (u.drop (a.length - b.length + 1)) by omega) (Int.le_of_lt hW)
        rw [← Int.mul_assoc, ← Int.pow_add, show a.length - b.length + 1 + (b.length - 1) = a.length from by omega] at h5
        have h6 := Int.mul_lt_mul_of_pos_right hAl hP0
        omega
      have hq0 : ∀ t, (List.replicate (a.length - b.length + 1) (0 : Int)).getD t 0 = 0 := fun t => by
        simp [List.getD_eq_getElem?_getD, List.getElem?_replicate]; split <;> rfl
      obtain ⟨u2, q2, ⟨K4, h4⟩, w1, w2, w3, w4, w5, w6⟩ := go_run (v.take b.length) b.length hvtl hn2 lb (dv.take _) n2 (a.length - b.length + 1) u (List.replicate (a.length - b.length + 1) 0) (by omega) du (by omega) htopu (Dig.rep (by decide) _) (by simp) (fun t _ => hq0 t)
      rw [val_replicate, Int.zero_mul, Int.add_zero, huv, n1] at w6
      rw [n1] at w5
      have hu0 := val_nonneg (B := 18446744073709551616) (by decide) w2
      obtain ⟨d1, d2⟩ := scale_div (X := A) (a := D) (P := P) (G := val 18446744073709551616 q2) (r := val 18446744073709551616 u2) hP0 hD (by omega) hu0 w5
      obtain ⟨q, ⟨K5, h5⟩, q1, q3, q4⟩ := whole_trimmed_ev (B := 18446744073709551616) (l := q2) (by rw [w4]; simp; omega) w3
      have hvlt := val_lt (B := 18446744073709551616) (by decide) (dv.take b.length)
      rw [hvtl, n1] at hvlt
      have hut := val_take_of_lt (n := b.length) w2 (by omega)
      obtain ⟨r0, ⟨K6, h6⟩, r1, r3, r4⟩ := whole_trimmed_ev (B := 18446744073709551616) (l := u2.take b.length) (by rw [List.length_take]; omega) (w2.take _)
      have hr0l : r0.length ≤ 8388608 := by
        have := rep_len (by decide) (Rep.mk r1 r3 (r4.trans hut.1)) (m := b.length) (by omega)
        omega
      obtain ⟨r, ⟨K7, h7⟩, hr⟩ := down_ev hSh r0 hr0l r1
      rw [r4, hut.1, ← d2] at hr
      refine ⟨q, r, ⟨K1 + K2 + K3 + K4 + K5 + K6 + K7, fun k hk => ?_⟩, ⟨q1, q3, by rw [q4, d1]⟩, hr⟩
      have e1 : whole_amount_cmp.f k a b = _ := h1 k (by omega)
      have e2 : whole_amount_up.f k b s = _ := h2 k (by omega)
      have e3 : whole_amount_up.f k a s = _ := h3 k (by omega)
      have e4 : quo_go k u (v.take b.length) (List.replicate (a.length - b.length + 1) 0) (((a.length - b.length + 1 : Nat) : Int) - 1) = _ := h4 k (by omega)
      have e5 : whole_trimmed.f k q2 = _ := h5 k (by omega)
      have e6 : whole_trimmed.f k (u2.take b.length) = _ := h6 k (by omega)
      have e7 : whole_amount_down.f k r0 s = _ := h7 k (by omega)
      have hs0 := hSh.s0
      have i1 : (a.length : Int) - (b.length : Int) = ((a.length - b.length + 1 : Nat) : Int) - 1 := by omega
      have i2 : (b.length : Int) - 1 = ((b.length - 1 : Nat) : Int) := by omega
      show whole_amount_quo.f k a b = _
      rw [whole_amount_quo.f, e1, Option.bind_some, if_neg hsg, if_neg h1b, if_pos (by omega), i2, rd_getD, hs, Option.bind_some, if_pos (by omega), e2, Option.bind_some, e3, Option.bind_some, if_pos (by omega), i1, e4, Option.bind_some, e5, Option.bind_some, e6, Option.bind_some, e7, Option.bind_some]
theorem mul_step (V c c' s x n X P B : Int) (hs : c' * B + s = x * n + c) (hv : V + c * P = X * n) : (V + s * P) + c' * (P * B) = (X + x * P) * n := by
  have h1 : c' * (P * B) + s * P = (c' * B + s) * P := by rw [Int.add_mul, Int.mul_assoc, Int.mul_comm P B]
  have h2 : x * P * n = x * n * P := by rw [Int.mul_assoc, Int.mul_comm P n, ← Int.mul_assoc]
  rw [hs, Int.add_mul] at h1
  rw [Int.add_mul, h2]
  omega
theorem timesD_step (k : Nat) (a out : List Int) (n c t : Int) (i : Nat) (hi : i < a.length) (hl : a.length ≤ 8388608) (ho : out.length = i) (ht : (c + a.getD i 0 % 4294967296 * n) % 4294967296 = t) :
    tribunalref02_timesD.l0 (k + 1) a n out c (i : Int) = tribunalref02_timesD.l0 k a n (out ++ [t % 65536]) (t / 65536) ((i + 1 : Nat) : Int) := by
  have hwr := step_wrap i a.length hi hl
  rw [tribunalref02_timesD.l0, if_pos (by omega), if_pos (by omega), if_pos (by omega), rd_getD, ht, hwr, IntKind.wrap_u16]
theorem timesD_l0 (a : List Int) (n : Int) (hn : 0 ≤ n ∧ n < 65536) (hl : a.length ≤ 8388608) (da : Dig 65536 a) : ∀ (m i : Nat) (out : List Int) (c : Int), i + m = a.length → out.length = i → Dig 65536 out → 0 ≤ c ∧ c < 65536 → val 65536 out + c * 65536 ^ i = val 65536 (a.take i) * n →
    ∃ r, Ev (fun k => tribunalref02_timesD.l0 k a n out c (i : Int)) r ∧ Rep 65536 (val 65536 a * n) r := by
  intro m
  induction m with
  | zero =>
    intro i out c hi ho hd hc hv
    obtain ⟨r, ⟨K, hr⟩, h1, h2, h3⟩ := tribunalref02_trim_ev (B := 65536) (l := out ++ [c]) (by simp; omega) (Dig.append.2 ⟨hd, by rw [Dig.cons]; exact ⟨hc, Dig.nil⟩⟩)
    refine ⟨r, ⟨K + 1, fun k hk => ?_⟩, h1, h2, ?_⟩
    · obtain ⟨k, rfl⟩ : ∃ j, k = j + 1 := ⟨k - 1, by omega⟩
      have hk' : tribunalref02_trim.f k (out ++ [c]) = some r := hr k (by omega)
      have hw : IntKind.u16.wrap c = c := by rw [IntKind.wrap_u16]; omega
      show tribunalref02_timesD.l0 (k + 1) a n out c (i : Int) = some r
      rw [tribunalref02_timesD.l0, if_neg (by omega), if_pos (by omega), hw, hk', Option.bind_some]
    · rw [h3, val_snoc, ho, hv, show i = a.length from by omega, List.take_length]
  | succ m ih =>
    intro i out c hi ho hd hc hv
    have hil : i < a.length := by omega
    have ga := getD_dig (by decide) da i
    have hb := mul_bound (M := 65535) (x := a.getD i 0) (y := n) (by omega) (by omega)
    have ht : (c + a.getD i 0 % 4294967296 * n) % 4294967296 = a.getD i 0 * n + c := by
      rw [Int.emod_eq_of_lt ga.1 (by omega)]
      generalize a.getD i 0 * n = p at *
      omega
    obtain ⟨r, ⟨K, hr⟩, hq⟩ := ih (i + 1) (out ++ [(a.getD i 0 * n + c) % 65536]) ((a.getD i 0 * n + c) / 65536) (by omega) (by simp; omega)
      (Dig.append.2 ⟨hd, by rw [Dig.cons]; exact ⟨by omega, Dig.nil⟩⟩) (by generalize a.getD i 0 * n = p at *; omega)
      (by rw [val_snoc, ho, val_take_getD, Int.pow_succ]; exact mul_step _ c _ _ _ _ _ _ _ (by omega) hv)
    refine ⟨r, ⟨K + 1, fun k hk => ?_⟩, hq⟩
    obtain ⟨k, rfl⟩ : ∃ j, k = j + 1 := ⟨k - 1, by omega⟩
    show tribunalref02_timesD.l0 (k + 1) a n out c (i : Int) = some r
    rw [timesD_step k a out n c _ i hil hl ho ht]
    exact hr k (by omega)
theorem timesD_ev (a : List Int) (n : Int) (hn : 0 ≤ n ∧ n < 65536) (hl : a.length ≤ 8388608) (da : Dig 65536 a) :
    ∃ r, Ev (fun k => tribunalref02_timesD.f k a n) r ∧ Rep 65536 (val 65536 a * n) r := by
  obtain ⟨r, ⟨K, hr⟩, hq⟩ := timesD_l0 a n hn hl da a.length 0 [] 0 (by omega) rfl Dig.nil (by omega) (by simp [val])
  refine ⟨r, ⟨K, fun k hk => ?_⟩, hq⟩
  show tribunalref02_timesD.f k a n = some r
  rw [tribunalref02_timesD.f]
  exact hr k hk
theorem times_len {A n : Int} {r : List Int} {L : Nat} (h : Rep 65536 (A * n) r) (hA : 0 ≤ A ∧ A < 65536 ^ L) (hn : 0 ≤ n ∧ n < 65536) : r.length ≤ L + 1 := by
  refine rep_len (by decide) h ?_
  rw [Int.pow_succ]
  have h1 := Int.mul_le_mul_of_nonneg_left (show n ≤ 65535 by omega) hA.1
  omega
theorem sg_le {n : Int} : sg n ≤ 0 ↔ n ≤ 0 := by unfold sg; split <;> (try split) <;> omega
theorem digit_l0 {A D : Int} {a b : List Int} (ha : Rep 65536 A a) (hb : Rep 65536 D b) (hD : 0 < D) (la : a.length ≤ 8388600) (lb : b.length ≤ 8388600) : ∀ (m : Nat) (lo hi : Int), (hi - lo).toNat ≤ m → 0 ≤ lo → lo ≤ hi → hi ≤ 65535 → D * lo ≤ A → A < D * (hi + 1) →
    ∃ r, Ev (fun k => tribunalref02_digit.l0 k a b lo hi) (A / D, r) ∧ Rep 65536 (A % D) r := by
  have hDl := hb.lt (by decide)
  have hA := ha.nonneg (by decide)
  intro m
  induction m with
  | zero =>
    intro lo hi hm h0 h1 h2 h3 h4
    have hlh : lo = hi := by omega
    subst hlh
    obtain ⟨t, ⟨K1, e1⟩, ht⟩ := timesD_ev b lo (by omega) (by omega) hb.dig
    rw [hb.val] at ht
    have hlt := times_len ht ⟨Int.le_of_lt hD, hDl⟩ (by omega)
    have hlen := len_of_le (by decide) ha.dig ht.dig ht.top (by rw [ha.val, ht.val]; exact h3)
    obtain ⟨r, ⟨K2, e2⟩, hr⟩ := subD_ev a t (by omega) hlen (by rw [ha.val, ht.val]; exact h3) ha.dig ht.dig
    rw [ha.val, ht.val] at hr
    have hdiv : A / D = lo := div_eq hD (by rw [Int.mul_comm]; exact h3) (by rw [Int.mul_comm]; exact h4)
    have hmod : A % D = A - D * lo := by
      have := Int.mul_ediv_add_emod A D
      rw [hdiv] at this; omega
    refine ⟨r, ⟨K1 + K2 + 1, fun k hk => ?_⟩, by rw [hmod]; exact hr⟩
    obtain ⟨k, rfl⟩ : ∃ j, k = j + 1 := ⟨k - 1, by omega⟩
    have g1 : tribunalref02_timesD.f k b lo = _ := e1 k (by omega)
    have g2 : tribunalref02_subD.f k a t = _ := e2 k (by omega)
    have hw : IntKind.u16.wrap lo = lo := by rw [IntKind.wrap_u16]; omega
    show tribunalref02_digit.l0 (k + 1) a b lo lo = _
    rw [tribunalref02_digit.l0, if_neg (by omega), g1, Option.bind_some, g2, Option.bind_some, hw, hdiv]
  | succ m ih =>
    intro lo hi hm h0 h1 h2 h3 h4
    by_cases hlt : lo < hi
    · have hmid : (lo + hi + 1) % 4294967296 / 2 = (lo + hi + 1) / 2 := by omega
      have m1 : lo < (lo + hi + 1) / 2 := by omega
      have m2 : (lo + hi + 1) / 2 ≤ hi := by omega
      generalize hmd : (lo + hi + 1) / 2 = mid at *
      have hm1 : (mid - 1) % 4294967296 = mid - 1 := by omega
      obtain ⟨t, ⟨K1, e1⟩, ht⟩ := timesD_ev b mid (by omega) (by omega) hb.dig
      rw [hb.val] at ht
      have htl := times_len ht ⟨Int.le_of_lt hD, hDl⟩ (by omega)
      obtain ⟨K2, e2⟩ := tribunalref02_cmpD_ev t a (by omega) (by omega) ht.dig ha.dig ht.top ha.top
      rw [ht.val, ha.val] at e2
      by_cases hc : D * mid ≤ A
      · obtain ⟨r, ⟨K3, e3⟩, hr⟩ := ih mid hi (by omega) (by omega) m2 h2 hc h4
        refine ⟨r, ⟨K1 + K2 + K3 + 1, fun k hk => ?_⟩, hr⟩
        obtain ⟨k, rfl⟩ : ∃ j, k = j + 1 := ⟨k - 1, by omega⟩
        have g1 : tribunalref02_timesD.f k b mid = _ := e1 k (by omega)
        have g2 : tribunalref02_cmpD.f k t a = _ := e2 k (by omega)
        show tribunalref02_digit.l0 (k + 1) a b lo hi = _
        rw [tribunalref02_digit.l0, if_pos hlt, hmid, g1, Option.bind_some, g2, Option.bind_some, if_pos (sg_le.2 (by omega))]
        exact e3 k (by omega)
      · obtain ⟨r, ⟨K3, e3⟩, hr⟩ := ih lo (mid - 1) (by omega) h0 (by omega) (by omega) h3 (by rw [show mid - 1 + 1 = mid from by omega]; omega)
        refine ⟨r, ⟨K1 + K2 + K3 + 1, fun k hk => ?_⟩, hr⟩
        obtain ⟨k, rfl⟩ : ∃ j, k = j + 1 := ⟨k - 1, by omega⟩
        have g1 : tribunalref02_timesD.f k b mid = _ := e1 k (by omega)
        have g2 : tribunalref02_cmpD.f k t a = _ := e2 k (by omega)
        show tribunalref02_digit.l0 (k + 1) a b lo hi = _
        rw [tribunalref02_digit.l0, if_pos hlt, hmid, g1, Option.bind_some, g2, Option.bind_some, if_neg (fun x => hc (by have := sg_le.1 x; omega)), hm1]
        exact e3 k (by omega)
    · exact ih lo hi (by omega) h0 h1 h2 h3 h4
theorem digit_ev {A D : Int} {a b : List Int} (ha : Rep 65536 A a) (hb : Rep 65536 D b) (hD : 0 < D) (la : a.length ≤ 8388600) (lb : b.length ≤ 8388600) (hlt : A < D * 65536) :
    ∃ r, Ev (fun k => tribunalref02_digit.f k a b) (A / D, r) ∧ Rep 65536 (A % D) r := by
  have hA := ha.nonneg (by decide)
  obtain ⟨r, ⟨K, hr⟩, hq⟩ := digit_l0 ha hb hD la lb 65535 0 65535 (by omega) (by omega) (by omega) (by omega) (by omega) (by omega)
  refine ⟨r, ⟨K, fun k hk => ?_⟩, hq⟩
  show tribunalref02_digit.f k a b = _
  rw [tribunalref02_digit.f]
  exact hr k hk
theorem divD_l0 {D : Int} {b : List Int} (a : List Int) (hb : Rep 65536 D b) (hD : 0 < D) (hl : a.length ≤ 8388608) (lb : b.length ≤ 8388590) (da : Dig 65536 a) : ∀ (n : Nat) (q r : List Int) (R i : Int), n ≤ a.length → i = (n : Int) - 1 → q.length = a.length → Dig 65536 q → (∀ t, t < n → q.getD t 0 = 0) → Rep 65536 R r → R < D → val 65536 q * D + R * 65536 ^ n + val 65536 (a.take n) = val 65536 a →
    ∃ q2 r2, Ev (fun k => tribunalref02_divD.l0 k a b q r i) (q2, r2) ∧ Rep 65536 (val 65536 a / D) q2 ∧ Rep 65536 (val 65536 a % D) r2 := by
  have hDl := hb.lt (by decide)
  intro n
  induction n with
  | zero =>
    intro q r R i hn hi hq dq hz hr hR hv
    have hR0 := hr.nonneg (by decide)
    obtain ⟨q2, ⟨K, hK⟩, h1, h2, h3⟩ := tribunalref02_trim_ev (B := 65536) (l := q) (by omega) dq
    have hv' : val 65536 q * D + R = val 65536 a := by rw [← hv]; simp [val]
    have hdiv : val 65536 a / D = val 65536 q := div_eq hD (by omega) (by rw [Int.add_mul, Int.one_mul]; omega)
    have hmod : val 65536 a % D = R := by
      have h4 := Int.mul_ediv_add_emod (val 65536 a) D
      rw [hdiv, Int.mul_comm] at h4
      omega
    refine ⟨q2, r, ⟨K + 1, fun k hk => ?_⟩, ⟨h1, h2, by rw [h3, hdiv]⟩, by rw [hmod]; exact hr⟩
    obtain ⟨k, rfl⟩ : ∃ j, k = j + 1 := ⟨k - 1, by omega⟩
    have hk' : tribunalref02_trim.f k q = some q2 := hK k (by omega)
    show tribunalref02_divD.l0 (k + 1) a b q r i = _
    rw [tribunalref02_divD.l0, if_neg (by omega), hk', Option.bind_some]
  | succ n ih =>
    intro q r R i hn hi hq dq hz hr hR hv
    have hR0 := hr.nonneg (by decide)
    have hi' : i = (n : Int) := by omega
    subst hi'
    have ga := getD_dig (by decide) da n
    have hrl : r.length ≤ b.length := rep_len (by decide) hr (by omega)
    have dr : Dig 65536 (a.getD n 0 :: r) := Dig.cons.2 ⟨ga, hr.dig⟩
    obtain ⟨t, ⟨K1, e1⟩, h1, h2, h3⟩ := tribunalref02_trim_ev (B := 65536) (l := a.getD n 0 :: r) (by simp; omega) dr
    have ht : Rep 65536 (a.getD n 0 + 65536 * R) t := ⟨h1, h2, by rw [h3]; show a.getD n 0 + 65536 * val 65536 r = _; rw [hr.val]⟩
    have htl : t.length ≤ b.length + 1 := rep_len (by decide) ht (by rw [Int.pow_succ]; omega)
    obtain ⟨r', ⟨K2, e2⟩, hr'⟩ := digit_ev ht hb hD (by omega) (by omega) (by omega)
    have g1 := Int.mul_ediv_add_emod (a.getD n 0 + 65536 * R) D
    have g2 := Int.emod_nonneg (a.getD n 0 + 65536 * R) (Int.ne_of_gt hD)
    have g3 := Int.emod_lt_of_pos (a.getD n 0 + 65536 * R) hD
    have g4 : 0 ≤ (a.getD n 0 + 65536 * R) / D := Int.ediv_nonneg (by omega) (by omega)
    have g5 : (a.getD n 0 + 65536 * R) / D < 65536 := Int.ediv_lt_of_lt_mul hD (by omega)
    generalize (a.getD n 0 + 65536 * R) / D = g at *
    generalize hR' : (a.getD n 0 + 65536 * R) % D = R' at *
    clear hR'
    obtain ⟨q2, r2, ⟨K3, e3⟩, hq2⟩ := ih (q.set n g) r' R' ((n : Int) - 1) (by omega) rfl (by simp [hq]) (dq.set n ⟨g4, g5⟩) (fun t ht => by rw [getD_set_ne _ _ _ _ (by omega)]; exact hz t (by omega)) hr' g3 (by
      rw [← hv, val_set_getD _ _ _ _ (by omega), hz n (by omega), val_take_getD, Int.sub_zero, Int.pow_succ, Int.add_mul]
      generalize (65536 : Int) ^ n = W
      have x1 : g * W * D = D * g * W := by rw [Int.mul_comm (g * W), ← Int.mul_assoc]
      have x2 : R * (W * 65536) = 65536 * R * W := by rw [Int.mul_comm W, ← Int.mul_assoc, Int.mul_comm R]
      have x3 : (D * g + R') * W = (a.getD n 0 + 65536 * R) * W := by rw [g1]
      rw [Int.add_mul, Int.add_mul] at x3
      rw [x1, x2]
      omega)
    refine ⟨q2, r2, ⟨K1 + K2 + K3 + 1, fun k hk => ?_⟩, hq2⟩
    obtain ⟨k, rfl⟩ : ∃ j, k = j + 1 := ⟨k - 1, by omega⟩
    have f1 : tribunalref02_trim.f k ([a.getD n 0] ++ r) = some t := e1 k (by omega)
    have f2 : tribunalref02_digit.f k t b = _ := e2 k (by omega)
    have f3 := e3 k (by omega)
    show tribunalref02_divD.l0 (k + 1) a b q r (n : Int) = _
    rw [tribunalref02_divD.l0, if_pos (by omega), if_pos (by omega), if_pos (by omega), Option.bind_some, rd_getD, if_pos (by simp; omega), f1, Option.bind_some, f2, Option.bind_some, if_pos (by omega), Int.toNat_natCast, w64 _ (by omega)]
    exact f3
theorem divD_ev {A D : Int} {a b : List Int} (ha : Rep 65536 A a) (hb : Rep 65536 D b) (hD : 0 < D) (la : a.length ≤ 8388608) (lb : b.length ≤ 8388590) :
    ∃ q r, Ev (fun k => tribunalref02_divD.f k a b) (q, r) ∧ Rep 65536 (A / D) q ∧ Rep 65536 (A % D) r := by
  have hz : ∀ t, (List.replicate a.length (0 : Int)).getD t 0 = 0 := fun t => by
    simp [List.getD_eq_getElem?_getD, List.getElem?_replicate]; split <;> rfl
  obtain ⟨q2, r2, ⟨K, hK⟩, h1, h2⟩ := divD_l0 a hb hD la lb ha.dig a.length (List.replicate a.length 0) [] 0 ((a.length : Int) - 1) (Nat.le_refl _) rfl (by simp) (Dig.rep (by decide) _) (fun t _ => hz t) ⟨Dig.nil, trivial, rfl⟩ hD (by rw [val_replicate, List.take_length]; simp)
  rw [ha.val] at h1 h2
  refine ⟨q2, r2, ⟨K, fun k hk => ?_⟩, h1, h2⟩
  show tribunalref02_divD.f k a b = _
  rw [tribunalref02_divD.f, if_pos (by omega), Int.toNat_natCast, if_pos (by omega), w64 _ (by omega)]
  exact hK k hk
def qn (n m : Int) : Int := if (decide (n < 0) != decide (m < 0)) = true then -((n.natAbs : Int) / (m.natAbs : Int)) else (n.natAbs : Int) / (m.natAbs : Int)
def rn (n m : Int) : Int := if decide (n < 0) = true then -((n.natAbs : Int) % (m.natAbs : Int)) else (n.natAbs : Int) % (m.natAbs : Int)
theorem cut_num {n m : Int} {s t : Bool} {a b : List Int} (ha : Num 18446744073709551616 n s a) (hb : Num 18446744073709551616 m t b) (hm : m ≠ 0) (la : a.length ≤ 8388600) (lb : b.length ≤ 8388600) :
    ∃ u q v r, Ev (fun k => whole_number_cut.f k a s b t) (q, u, r, v) ∧ Num 18446744073709551616 (qn n m) u q ∧ Num 18446744073709551616 (rn n m) v r := by
  obtain ⟨q, r, ⟨K, hK⟩, hq, hr⟩ := quo_ev ha.rep hb.rep (by omega) la lb
  refine ⟨_, q, _, r, ⟨K, fun k hk => ?_⟩, Num.of_rep' (by decide) hq (s != t) (by rw [ha.sign, hb.sign]; rfl), Num.of_rep' (by decide) hr s (by rw [ha.sign]; rfl)⟩
  have e : whole_amount_quo.f k a b = _ := hK k hk
  show whole_number_cut.f k a s b t = _
  rw [whole_number_cut.f, e, Option.bind_some, signed_eq, Option.bind_some, signed_eq, Option.bind_some]
theorem rMake_rep {v : Int} {l : List Int} (h : Rep 65536 v l) (hl : l.length ≤ 8388608) (b : Bool) {n : Int} (hn : n = if b then -v else v) : ∃ u r, Ev (fun k => tribunalref02_Make.f k b l) (u, r) ∧ Num 65536 n u r := by
  obtain ⟨r, hE, h1, h2, h3⟩ := Make_ev b l (by omega) h.dig
  exact ⟨_, r, hE, Num.of_rep' (by decide) ⟨h1, h2, h3.trans h.val⟩ b hn⟩
theorem div_small {A D : Int} {L : Nat} (hA : 0 ≤ A ∧ A < 65536 ^ L) (hD : 0 < D) : A / D < 65536 ^ L ∧ A % D < 65536 ^ L := by
  have h1 := Int.ediv_le_self D hA.1
  have h2 := Int.mul_ediv_add_emod A D
  have h3 : 0 ≤ A / D := Int.ediv_nonneg hA.1 (Int.le_of_lt hD)
  have h4 := Int.mul_nonneg (Int.le_of_lt hD) h3
  exact ⟨by omega, by omega⟩
theorem Cut_num {n m : Int} {s t : Bool} {a b : List Int} (ha : Num 65536 n s a) (hb : Num 65536 m t b) (hm : m ≠ 0) (la : a.length ≤ 8388590) (lb : b.length ≤ 8388590) :
    ∃ u q v r, Ev (fun k => tribunalref02_Cut.f k s a t b) (u, q, v, r) ∧ Num 65536 (qn n m) u q ∧ Num 65536 (rn n m) v r ∧ q.length ≤ a.length ∧ r.length ≤ a.length := by
  obtain ⟨q0, r0, ⟨K1, h1⟩, hq, hr⟩ := divD_ev ha.rep hb.rep (by omega) (by omega) lb
  have hA0 := ha.rep.nonneg (by decide)
  have hA1 := ha.rep.lt (by decide)
  obtain ⟨d1, d2⟩ := div_small (D := (m.natAbs : Int)) ⟨hA0, hA1⟩ (by omega)
  have lq := rep_len (by decide) hq d1
  have lr := rep_len (by decide) hr d2
  obtain ⟨u, q, ⟨K2, h2⟩, N1⟩ := rMake_rep hq (by omega) (s != t) (n := qn n m) (by rw [ha.sign, hb.sign]; rfl)
  obtain ⟨v, r, ⟨K3, h3⟩, N2⟩ := rMake_rep hr (by omega) s (n := rn n m) (by rw [ha.sign]; rfl)
  have eq1 : ((qn n m).natAbs : Int) = (n.natAbs : Int) / (m.natAbs : Int) := by
    have : 0 ≤ (n.natAbs : Int) / (m.natAbs : Int) := Int.ediv_nonneg (by omega) (by omega)
    unfold qn; split <;> omega
  have er1 : ((rn n m).natAbs : Int) = (n.natAbs : Int) % (m.natAbs : Int) := by
    have : 0 ≤ (n.natAbs : Int) % (m.natAbs : Int) := Int.emod_nonneg _ (by omega)
    unfold rn; split <;> omega
  refine ⟨u, q, v, r, ⟨K1 + K2 + K3, fun k hk => ?_⟩, N1, N2, rep_len (by decide) N1.rep (by rw [eq1]; exact d1), rep_len (by decide) N2.rep (by rw [er1]; exact d2)⟩
  have e1 : tribunalref02_divD.f k a b = _ := h1 k (by omega)
  have e2 : tribunalref02_Make.f k (s != t) q0 = _ := h2 k (by omega)
  have e3 : tribunalref02_Make.f k s r0 = _ := h3 k (by omega)
  show tribunalref02_Cut.f k s a t b = _
  rw [tribunalref02_Cut.f, e1, Option.bind_some, e2, Option.bind_some, e3, Option.bind_some]
theorem long_eq (l : List Int) (s : Bool) : whole_number_long.f l s = some (decide ((l.length : Int) > 4096)) := rfl
theorem null_eq (l : List Int) : whole_amount_null.f l = some (decide (l = [])) := by
  rw [whole_amount_null.f]
  congr 1
  cases l <;> simp <;> omega
theorem num_nil {B n : Int} (hB : 0 < B) {s : Bool} {a : List Int} (h : Num B n s a) : a = [] ↔ n = 0 := by
  rw [h.rep.nil_iff hB]; omega
theorem one_num : whole_one.f = some ([1], false) ∧ Num 18446744073709551616 1 false [1] :=
  ⟨rfl, ⟨⟨by rw [Dig.cons]; exact ⟨by decide, Dig.nil⟩, by simp [Top], by simp [val]⟩, rfl⟩⟩
theorem qn_abs (n m : Int) : ((qn n m).natAbs : Int) = (n.natAbs : Int) / (m.natAbs : Int) := by
  have : 0 ≤ (n.natAbs : Int) / (m.natAbs : Int) := Int.ediv_nonneg (by omega) (by omega)
  unfold qn; split <;> omega
theorem rn_abs (n : Int) {m : Int} (hm : m ≠ 0) : ((rn n m).natAbs : Int) = (n.natAbs : Int) % (m.natAbs : Int) := by
  have : 0 ≤ (n.natAbs : Int) % (m.natAbs : Int) := Int.emod_nonneg _ (by omega)
  unfold rn; split <;> omega
theorem qn_le (n m : Int) : ((qn n m).natAbs : Int) ≤ n.natAbs := by
  rw [qn_abs]; exact Int.ediv_le_self _ (by omega)
theorem rn_lt (n : Int) {m : Int} (hm : m ≠ 0) : ((rn n m).natAbs : Int) < m.natAbs := by
  rw [rn_abs n hm]; exact Int.emod_lt_of_pos _ (by omega)
theorem len_small {B n k : Int} (hB : 0 < B) {s t : Bool} {a q : List Int} (ha : Num B n s a) (hq : Num B k t q) (h : (k.natAbs : Int) ≤ n.natAbs) : q.length ≤ a.length :=
  rep_len hB hq.rep (Int.lt_of_le_of_lt h (ha.rep.lt hB))
theorem inv_step (V c c' lo2 o X x y P R W B : Int) (hs : c' * B + lo2 = x * y + o + c) (hv : V + c * (P * R) = X + x * P * W) : (V + (lo2 - o) * (P * R)) + c' * (P * R * B) = X + x * P * (W + y * R) := by
  have e : c' * B = x * y + o + c - lo2 := by omega
  have : c' * (P * R * B) = (c' * B) * (P * R) := by grind
  rw [this, e]
  grind
theorem inv_exit (V c X x P R W : Int) (hv : V + c * (P * R) = X + x * P * W) : V + (c - 0) * (P * R) = X + x * P * W := by rw [Int.sub_zero]; exact hv
theorem l1_step (k : Nat) (b out a : List Int) (i j x c n1 n2 p hi lo t1 c1 lo2 c2 : Int) (h1 : j < n2) (h2 : 0 ≤ j) (h3 : j < (b.length : Int)) (h4 : bits_Mul64.f x (rd b j) = some (hi, lo)) (h5 : wrap64 (i + j) = p) (h6 : 0 ≤ p) (h7 : p < (out.length : Int)) (h8 : bits_Add64.f lo (rd out p) 0 = some (t1, c1)) (h9 : bits_Add64.f t1 c 0 = some (lo2, c2)) :
    whole_amount_times.l1 (k + 1) b out i x c a n1 i b n2 j = whole_amount_times.l1 k b (out.set p.toNat lo2) i x (IntKind.u64.wrap (IntKind.u64.wrap (hi + c1) + c2)) a n1 i b n2 (wrap64 (j + 1)) := by
  rw [whole_amount_times.l1, if_pos h1, if_pos h2, if_pos h3, h4, Option.bind_some, h5, if_pos h6, if_pos h7, h8, Option.bind_some, h9, Option.bind_some]
theorem times_in (a b : List Int) (ha : a.length ≤ 1048576) (hb : b.length ≤ 1048576) (da : Dig 18446744073709551616 a) (db : Dig 18446744073709551616 b) (i : Nat) (hi : i < a.length) (X : Int) (Q : List Int → Prop)
    (cont : ∀ out, out.length = a.length + b.length → Dig 18446744073709551616 out → val 18446744073709551616 out = X + a[i] * 18446744073709551616 ^ i * val 18446744073709551616 b → (∀ t, i + 1 + b.length ≤ t → out.getD t 0 = 0) → ∃ r, Ev (fun k => whole_amount_times.l0 k b out a (a.length : Int) ((i : Int) + 1)) r ∧ Q r) :
    ∀ (m j : Nat) (out : List Int) (c : Int), j + m = b.length → out.length = a.length + b.length → Dig 18446744073709551616 out → 0 ≤ c ∧ c < 18446744073709551616 → val 18446744073709551616 out + c * 18446744073709551616 ^ (i + j) = X + a[i] * 18446744073709551616 ^ i * val 18446744073709551616 (b.take j) → (∀ t, i + b.length ≤ t → out.getD t 0 = 0) →
    ∃ r, Ev (fun k => whole_amount_times.l1 k b out (i : Int) a[i] c a (a.length : Int) (i : Int) b (b.length : Int) (j : Int)) r ∧ Q r := by
  intro m
  induction m with
  | zero =>
    intro j out c hj ho hd hc hv hz
    have hj' : j = b.length := by omega
    subst hj'
    have h0 : out[i + b.length]'(by omega) = 0 := by
      have := hz (i + b.length) (by omega)
      rwa [List.getD_eq_getElem?_getD, List.getElem?_eq_getElem (by omega), Option.getD_some] at this
    obtain ⟨r, ⟨K, hr⟩, hq⟩ := cont (out.set (i + b.length) c) (by simpa using ho) (hd.set _ hc)
      (by
        rw [List.take_length, Int.pow_add] at hv
        rw [val_set _ _ _ _ (by omega), h0, Int.pow_add]
        exact inv_exit _ _ _ _ _ _ _ hv)
      (fun t ht => by rw [getD_set_ne _ _ _ _ (by omega)]; exact hz t (by omega))
    refine ⟨r, ⟨K + 1, fun k hk => ?_⟩, hq⟩
    obtain ⟨k, rfl⟩ : ∃ j, k = j + 1 := ⟨k - 1, by omega⟩
    simp only [whole_amount_times.l1]
    rw [if_neg (by omega), w64 _ (by omega), if_pos (by omega), if_pos (by omega), w64 _ (by omega)]
    have := hr k (by omega)
    rw [show i + b.length = ((i : Int) + (b.length : Int)).toNat from by omega] at this
    with_reducible exact this
  | succ m ih =>
    intro j out c hj ho hd hc hv hz
    have hx := da.get i hi
    have hy := db.get j (by omega)
    have hp : i + j < out.length := by omega
    have hoo := hd.get (i + j) hp
    obtain ⟨h1, lo, t1, c1, lo2, c2, c', hm, ha1, ha2, hw, hlo, hcc, hs⟩ := mstep a[i] b[j] out[i + j] c hx hy hoo hc
    obtain ⟨r, ⟨K, hr⟩, hq⟩ := ih (j + 1) (out.set (i + j) lo2) c' (by omega) (by simpa using ho) (hd.set _ hlo) hcc
      (by
        rw [Int.pow_add] at hv
        rw [val_set _ _ _ _ hp, val_take_succ _ b j (by omega), show i + (j + 1) = (i + j) + 1 from by omega, Int.pow_succ, Int.pow_add]
        exact inv_step _ _ _ _ _ _ _ _ _ _ _ _ hs hv)
      (fun t ht => by rw [getD_set_ne _ _ _ _ (by omega)]; exact hz t ht)
    refine ⟨r, ⟨K + 1, fun k hk => ?_⟩, hq⟩
    obtain ⟨k, rfl⟩ : ∃ j, k = j + 1 := ⟨k - 1, by omega⟩
    have := hr k (by omega)
    show whole_amount_times.l1 (k + 1) b out (i : Int) a[i] c a (a.length : Int) (i : Int) b (b.length : Int) (j : Int) = some r
    rw [l1_step k b out a i j a[i] c a.length b.length (i + j : Nat) h1 lo t1 c1 lo2 c2 (by omega) (by omega) (by omega) (by rw [rd_nat b j (by omega)]; exact hm) (by rw [w64 _ (by omega)]; omega) (by omega) (by omega) (by rw [rd_nat out (i + j) hp]; exact ha1) ha2, hw, w64 _ (by omega), Int.toNat_natCast]
    rw [show ((j + 1 : Nat) : Int) = (j : Int) + 1 from by omega] at this
    with_reducible exact this
theorem times_out (a b : List Int) (ha : a.length ≤ 1048576) (hb : b.length ≤ 1048576) (da : Dig 18446744073709551616 a) (db : Dig 18446744073709551616 b) : ∀ (n i : Nat) (out : List Int), i + n = a.length → out.length = a.length + b.length → Dig 18446744073709551616 out → val 18446744073709551616 out = val 18446744073709551616 (a.take i) * val 18446744073709551616 b → (∀ t, i + b.length ≤ t → out.getD t 0 = 0) →
    ∃ r, Ev (fun k => whole_amount_times.l0 k b out a (a.length : Int) (i : Int)) r ∧ (Dig 18446744073709551616 r ∧ Top r ∧ val 18446744073709551616 r = val 18446744073709551616 a * val 18446744073709551616 b) := by
  intro n
  induction n with
  | zero =>
    intro i out hi ho hd hv hz
    obtain ⟨r, ⟨K, hr⟩, h1, h2, h3⟩ := whole_trimmed_ev (B := 18446744073709551616) (l := out) (by omega) hd
    refine ⟨r, ⟨K + 1, fun k hk => ?_⟩, h1, h2, by rw [h3, hv, show i = a.length from by omega, List.take_length]⟩
    obtain ⟨k, rfl⟩ : ∃ j, k = j + 1 := ⟨k - 1, by omega⟩
    show whole_amount_times.l0 (k + 1) b out a (a.length : Int) (i : Int) = some r
    have hk' : whole_trimmed.f k out = some r := hr k (by omega)
    rw [whole_amount_times.l0, if_neg (by omega), hk', Option.bind_some]
  | succ n ih =>
    intro i out hi ho hd hv hz
    have hil : i < a.length := by omega
    obtain ⟨r, ⟨K, hr⟩, hq⟩ := times_in a b ha hb da db i hil (val 18446744073709551616 (a.take i) * val 18446744073709551616 b) _ (fun out' h1 h2 h3 h4 => by
        have := ih (i + 1) out' (by omega) h1 h2 (by rw [h3, val_take_succ _ a i hil, Int.add_mul]) h4
        rwa [show ((i + 1 : Nat) : Int) = (i : Int) + 1 from by omega] at this) b.length 0 out 0 (by omega) ho hd ⟨by omega, by omega⟩ (by rw [hv]; simp [val]) hz
    refine ⟨r, ⟨K + 1, fun k hk => ?_⟩, hq⟩
    obtain ⟨k, rfl⟩ : ∃ j, k = j + 1 := ⟨k - 1, by omega⟩
    show whole_amount_times.l0 (k + 1) b out a (a.length : Int) (i : Int) = some r
    have := hr k (by omega)
    rw [show ((0 : Nat) : Int) = 0 from rfl] at this
    rw [whole_amount_times.l0, if_pos (by omega), if_pos (by omega), if_pos (by omega), rd_nat a i hil]
    with_reducible exact this
theorem times_ev (a b : List Int) (ha : a.length ≤ 1048576) (hb : b.length ≤ 1048576) (da : Dig 18446744073709551616 a) (db : Dig 18446744073709551616 b) :
    ∃ r, Ev (fun k => whole_amount_times.f k a b) r ∧ Dig 18446744073709551616 r ∧ Top r ∧ val 18446744073709551616 r = val 18446744073709551616 a * val 18446744073709551616 b := by
  obtain ⟨r, ⟨K, hr⟩, hq⟩ := times_out a b ha hb da db a.length 0 (List.replicate (a.length + b.length) 0) (by omega) (by simp) (Dig.rep (by decide) _) (by rw [val_replicate]; simp [val]) (fun t _ => by simp [List.getD_eq_getElem?_getD, List.getElem?_replicate]; split <;> rfl)
  refine ⟨r, ⟨K, fun k hk => ?_⟩, hq⟩
  show whole_amount_times.f k a b = some r
  have hw : wrap64 ((a.length : Int) + (b.length : Int)) = ((a.length + b.length : Nat) : Int) := by rw [w64 _ (by omega)]; omega
  rw [whole_amount_times.f, hw, Int.toNat_natCast, if_pos (by omega), if_pos (by omega)]
  exact hr k hk
theorem rmstep (x y o c : Int) (hx : 0 ≤ x ∧ x < 65536) (hy : 0 ≤ y ∧ y < 65536) (ho : 0 ≤ o ∧ o < 65536) (hc : 0 ≤ c ∧ c < 65536) :
    ∃ T, ((c + o) + ((x % 4294967296) * (y % 4294967296))) % 4294967296 = T ∧ (0 ≤ IntKind.u16.wrap T ∧ IntKind.u16.wrap T < 65536) ∧ (0 ≤ T / 65536 ∧ T / 65536 < 65536) ∧ (T / 65536) * 65536 + IntKind.u16.wrap T = x * y + o + c := by
  have hxy := mul_bound (x := x) (y := y) (M := 65535) ⟨hx.1, by omega⟩ ⟨hy.1, by omega⟩
  refine ⟨_, rfl, ?_⟩
  rw [Int.emod_eq_of_lt (a := x) (by omega) (by omega), Int.emod_eq_of_lt (a := y) (by omega) (by omega), IntKind.wrap_u16]
  generalize x * y = xy at *
  omega
theorem r_l1_step (k : Nat) (out a b : List Int) (sa sb : Bool) (i j c p T : Int) (h1 : j < (b.length : Int)) (h5 : wrap64 (i + j) = p) (h6 : 0 ≤ p) (h7 : p < (out.length : Int)) (h2 : 0 ≤ i) (h3 : i < (a.length : Int)) (h4 : 0 ≤ j) (hT : ((c + rd out p) + ((rd a i % 4294967296) * (rd b j % 4294967296))) % 4294967296 = T) :
    tribunalref02_Times.l1 (k + 1) out i c j sa a sb b = tribunalref02_Times.l1 k (out.set p.toNat (IntKind.u16.wrap T)) i (T / 65536) (wrap64 (j + 1)) sa a sb b := by
  rw [tribunalref02_Times.l1, if_pos h1, h5, if_pos h6, if_pos h7, if_pos h2, if_pos h3, if_pos h4, hT]
theorem rtimes_in (a b : List Int) (sa sb : Bool) (ha : a.length ≤ 4194304) (hb : b.length ≤ 4194304) (da : Dig 65536 a) (db : Dig 65536 b) (i : Nat) (hi : i < a.length) (X : Int) (Q : Bool × List Int → Prop)
    (cont : ∀ out, out.length = a.length + b.length → Dig 65536 out → val 65536 out = X + a[i] * 65536 ^ i * val 65536 b → (∀ t, i + 1 + b.length ≤ t → out.getD t 0 = 0) → ∃ r, Ev (fun k => tribunalref02_Times.l0 k out ((i : Int) + 1) sa a sb b) r ∧ Q r) :
    ∀ (m j : Nat) (out : List Int) (c : Int), j + m = b.length → out.length = a.length + b.length → Dig 65536 out → 0 ≤ c ∧ c < 65536 → val 65536 out + c * 65536 ^ (i + j) = X + a[i] * 65536 ^ i * val 65536 (b.take j) → (∀ t, i + b.length ≤ t → out.getD t 0 = 0) →
    ∃ r, Ev (fun k => tribunalref02_Times.l1 k out (i : Int) c (j : Int) sa a sb b) r ∧ Q r := by
  intro m
  induction m with
  | zero =>
    intro j out c hj ho hd hc hv hz
    have hj' : j = b.length := by omega
    subst hj'
    have h0 : out[i + b.length]'(by omega) = 0 := by
      have := hz (i + b.length) (by omega)
      rwa [List.getD_eq_getElem?_getD, List.getElem?_eq_getElem (by omega), Option.getD_some] at this
    obtain ⟨r, ⟨K, hr⟩, hq⟩ := cont (out.set (i + b.length) c) (by simpa using ho) (hd.set _ hc)
      (by
        rw [List.take_length, Int.pow_add] at hv
        rw [val_set _ _ _ _ (by omega), h0, Int.pow_add]
        exact inv_exit _ _ _ _ _ _ _ hv)
      (fun t ht => by rw [getD_set_ne _ _ _ _ (by omega)]; exact hz t (by omega))
    refine ⟨r, ⟨K + 1, fun k hk => ?_⟩, hq⟩
    obtain ⟨k, rfl⟩ : ∃ j, k = j + 1 := ⟨k - 1, by omega⟩
    show tribunalref02_Times.l1 (k + 1) out (i : Int) c (b.length : Int) sa a sb b = some r
    have hw : IntKind.u16.wrap c = c := by rw [IntKind.wrap_u16]; omega
    have := hr k (by omega)
    rw [tribunalref02_Times.l1, if_neg (by omega), w64 ((i : Int) + (b.length : Int)) (by omega), if_pos (by omega), if_pos (by omega), w64 _ (by omega), hw, show ((i : Int) + (b.length : Int)).toNat = i + b.length from by omega]
    with_reducible exact this
  | succ m ih =>
    intro j out c hj ho hd hc hv hz
    have hx := da.get i hi
    have hy := db.get j (by omega)
    have hp : i + j < out.length := by omega
    have hoo := hd.get (i + j) hp
    obtain ⟨T, hT, hl, hcc, hs⟩ := rmstep a[i] b[j] out[i + j] c hx hy hoo hc
    obtain ⟨r, ⟨K, hr⟩, hq⟩ := ih (j + 1) (out.set (i + j) (IntKind.u16.wrap T)) (T / 65536) (by omega) (by simpa using ho) (hd.set _ hl) hcc
      (by
        rw [Int.pow_add] at hv
        rw [val_set _ _ _ _ hp, val_take_succ _ b j (by omega), show i + (j + 1) = (i + j) + 1 from by omega, Int.pow_succ, Int.pow_add]
        exact inv_step _ _ _ _ _ _ _ _ _ _ _ _ hs hv)
      (fun t ht => by rw [getD_set_ne _ _ _ _ (by omega)]; exact hz t ht)
    refine ⟨r, ⟨K + 1, fun k hk => ?_⟩, hq⟩
    obtain ⟨k, rfl⟩ : ∃ j, k = j + 1 := ⟨k - 1, by omega⟩
    have := hr k (by omega)
    show tribunalref02_Times.l1 (k + 1) out (i : Int) c (j : Int) sa a sb b = some r
    rw [r_l1_step k out a b sa sb i j c (i + j : Nat) T (by omega) (by rw [w64 _ (by omega)]; omega) (by omega) (by omega) (by omega) (by omega) (by omega) (by rw [rd_nat out (i + j) hp, rd_nat a i hi, rd_nat b j (by omega)]; exact hT), w64 _ (by omega), Int.toNat_natCast]
    rw [show ((j + 1 : Nat) : Int) = (j : Int) + 1 from by omega] at this
    with_reducible exact this
theorem rtimes_out (a b : List Int) (sa sb : Bool) (ha : a.length ≤ 4194304) (hb : b.length ≤ 4194304) (da : Dig 65536 a) (db : Dig 65536 b) : ∀ (n i : Nat) (out : List Int), i + n = a.length → out.length = a.length + b.length → Dig 65536 out → val 65536 out = val 65536 (a.take i) * val 65536 b → (∀ t, i + b.length ≤ t → out.getD t 0 = 0) →
    ∃ r, Ev (fun k => tribunalref02_Times.l0 k out (i : Int) sa a sb b) r ∧ (r.1 = ((sa != sb) && decide (0 < r.2.length)) ∧ Dig 65536 r.2 ∧ Top r.2 ∧ val 65536 r.2 = val 65536 a * val 65536 b) := by
  intro n
  induction n with
  | zero =>
    intro i out hi ho hd hv hz
    obtain ⟨r, ⟨K, hr⟩, h1, h2, h3⟩ := Make_ev (sa != sb) out (by omega) hd
    refine ⟨(((sa != sb) && decide (0 < r.length)), r), ⟨K + 1, fun k hk => ?_⟩, rfl, h1, h2, by rw [h3, hv, show i = a.length from by omega, List.take_length]⟩
    obtain ⟨k, rfl⟩ : ∃ j, k = j + 1 := ⟨k - 1, by omega⟩
    have hk' : tribunalref02_Make.f k (sa != sb) out = some (((sa != sb) && decide (0 < r.length)), r) := hr k (by omega)
    show tribunalref02_Times.l0 (k + 1) out (i : Int) sa a sb b = _
    rw [tribunalref02_Times.l0, if_neg (by omega), hk', Option.bind_some]
  | succ n ih =>
    intro i out hi ho hd hv hz
    have hil : i < a.length := by omega
    obtain ⟨r, ⟨K, hr⟩, hq⟩ := rtimes_in a b sa sb ha hb da db i hil (val 65536 (a.take i) * val 65536 b) _ (fun out' h1 h2 h3 h4 => by
        have := ih (i + 1) out' (by omega) h1 h2 (by rw [h3, val_take_succ _ a i hil, Int.add_mul]) h4
        rwa [show ((i + 1 : Nat) : Int) = (i : Int) + 1 from by omega] at this) b.length 0 out 0 (by omega) ho hd ⟨by omega, by omega⟩ (by rw [hv]; simp [val]) hz
    refine ⟨r, ⟨K + 1, fun k hk => ?_⟩, hq⟩
    obtain ⟨k, rfl⟩ : ∃ j, k = j + 1 := ⟨k - 1, by omega⟩
    show tribunalref02_Times.l0 (k + 1) out (i : Int) sa a sb b = some r
    have := hr k (by omega)
    rw [show ((0 : Nat) : Int) = 0 from rfl] at this
    rw [tribunalref02_Times.l0, if_pos (by omega)]
    with_reducible exact this
theorem rtimes_ev (a b : List Int) (sa sb : Bool) (ha : a.length ≤ 4194304) (hb : b.length ≤ 4194304) (da : Dig 65536 a) (db : Dig 65536 b) :
    ∃ r, Ev (fun k => tribunalref02_Times.f k sa a sb b) ((sa != sb) && decide (0 < r.length), r) ∧ Dig 65536 r ∧ Top r ∧ val 65536 r = val 65536 a * val 65536 b := by
  obtain ⟨⟨s, r⟩, ⟨K, hr⟩, hs, hq⟩ := rtimes_out a b sa sb ha hb da db a.length 0 (List.replicate (a.length + b.length) 0) (by omega) (by simp) (Dig.rep (by decide) _) (by rw [val_replicate]; simp [val]) (fun t _ => by simp [List.getD_eq_getElem?_getD, List.getElem?_replicate]; split <;> rfl)
  have hs' : s = ((sa != sb) && decide (0 < r.length)) := hs
  clear hs
  subst hs'
  refine ⟨r, ⟨K, fun k hk => ?_⟩, hq⟩
  show tribunalref02_Times.f k sa a sb b = _
  have hw : wrap64 ((a.length : Int) + (b.length : Int)) = ((a.length + b.length : Nat) : Int) := by rw [w64 _ (by omega)]; omega
  rw [tribunalref02_Times.f, hw, Int.toNat_natCast, if_pos (by omega), if_pos (by omega)]
  exact hr k hk
theorem times_num {n m : Int} {s t : Bool} {a b : List Int} (ha : Num 18446744073709551616 n s a) (hb : Num 18446744073709551616 m t b) (la : a.length ≤ 1048576) (lb : b.length ≤ 1048576) :
    ∃ u r, Ev (fun k => whole_number_times.f k a s b t) (r, u) ∧ Num 18446744073709551616 (n * m) u r := by
  obtain ⟨r, ⟨K, hr⟩, h1, h2, h3⟩ := times_ev a b la lb ha.rep.dig hb.rep.dig
  rw [ha.rep.val, hb.rep.val] at h3
  have N := Num.of_rep' (by decide) (Rep.mk h1 h2 h3) (s != t) (n := n * m) (by rw [ha.sign, hb.sign]; exact mul_signs n m)
  refine ⟨_, r, ⟨K, fun k hk => ?_⟩, N⟩
  have hk' : whole_amount_times.f k a b = some r := hr k hk
  show whole_number_times.f k a s b t = _
  rw [whole_number_times.f, hk', Option.bind_some, signed_eq, Option.bind_some]
theorem rtimes_num {n m : Int} {s t : Bool} {a b : List Int} (ha : Num 65536 n s a) (hb : Num 65536 m t b) (la : a.length ≤ 4194304) (lb : b.length ≤ 4194304) :
    ∃ u r, Ev (fun k => tribunalref02_Times.f k s a t b) (u, r) ∧ Num 65536 (n * m) u r ∧ r.length ≤ 8388608 := by
  obtain ⟨r, hr, h1, h2, h3⟩ := rtimes_ev a b s t la lb ha.rep.dig hb.rep.dig
  rw [ha.rep.val, hb.rep.val] at h3
  have N := Num.of_rep' (by decide) (Rep.mk h1 h2 h3) (s != t) (n := n * m) (by rw [ha.sign, hb.sign]; exact mul_signs n m)
  refine ⟨_, r, hr, N, ?_⟩
  have g2 := val_lt (B := 65536) (by decide) ha.rep.dig
  have g3 := val_lt (B := 65536) (by decide) hb.rep.dig
  rw [ha.rep.val] at g2
  rw [hb.rep.val] at g3
  have h4 : r.length ≤ a.length + b.length := by
    refine rep_len (by decide) (Rep.mk h1 h2 h3) ?_
    rw [Int.pow_add]
    have p1 := pow_pos (B := 65536) (by decide) a.length
    have p2 := Int.mul_le_mul_of_nonneg_right (Int.le_of_lt g2) (show (0 : Int) ≤ (m.natAbs : Int) by omega)
    have p3 := Int.mul_lt_mul_of_pos_left g3 p1
    exact Int.lt_of_le_of_lt p2 p3
  omega
end Go.Proofs.YtodhkpdcpneeeaaDoor.PurePDv
namespace Go.Proofs.YtodhkpdcpneeeaaDoor.PurePDv
set_option linter.unusedVariables false
set_option linter.unusedSimpArgs false
open Go.RowKit Go.Proofs.YtodhkpdcpneeeaaDoorW.PrintWords Go.Proofs.YtodhkpdcpneeeaaDoorW.PrintLast Go.Proofs.YtodhkpdcpneeeaaDoorW.PrintMore Go.Proofs.YtodhkpdcpneeeaaDoor.PDv Go.Proofs.YtodhkpdcpneeeaaDoor Go.Proofs.YtodhkpdcpneeeaaDoor.Mine Big
def AN (L : Nat) (n : Int) (s : Bool) (l : List Int) : Prop := ∃ a s1, Ev (fun k => whole_of.f k s l) (a, s1) ∧ Num 18446744073709551616 n s1 a ∧ a.length ≤ L
theorem of_num' {n : Int} {s : Bool} {r : List Int} (h : Num 18446744073709551616 n s r) (hl : r.length ≤ 1048576) : Ev (fun k => whole_of.f k s r) (r, s) := by
  obtain ⟨q, hq, _, h1, h2, h3⟩ := of_ev s r hl h.rep.dig
  have e : q = r := h.rep.uniq (by decide) ⟨h1, h2, h3.trans h.rep.val⟩ |>.symm
  subst e
  have e1 := h.sign
  have e2 := h.rep.pos_iff (by decide)
  have es : (s && decide (0 < q.length)) = s := by
    cases s
    · rfl
    · have hn : n < 0 := of_decide_eq_true e1.symm
      have := e2.2 (by omega)
      simp [this]
  rw [es] at hq
  exact hq
theorem AN.of {L : Nat} {n : Int} {s : Bool} {r : List Int} (h : Num 18446744073709551616 n s r) (hl : r.length ≤ L) (hL : L ≤ 1048576) : AN L n s r := ⟨r, s, of_num' h (by omega), h, hl⟩
theorem AN.up {L L' : Nat} {n : Int} {s : Bool} {l : List Int} (h : AN L n s l) (hL : L ≤ L') : AN L' n s l := by
  obtain ⟨a, s1, h1, h2, h3⟩ := h
  exact ⟨a, s1, h1, h2, by omega⟩
theorem AN.arg (s : Bool) (l : List Int) (hl : l.length ≤ 1048576) (hd : Dig 18446744073709551616 l) : ∃ n, AN l.length n s l := by
  obtain ⟨n, t, r, d, h1, _, h2, _, h3, _⟩ := arg_num s l hl hd
  exact ⟨n, r, t, h1, h2, h3⟩
theorem told_ok (s : Bool) {l : List Int} (h : l.length ≤ 4096) : whole_number_told.f l s = some (s, l, 0) := by
  simp only [whole_number_told.f, whole_number_long.f, Option.bind_some]
  rw [if_neg (by simp; omega), whole_number_out.f, api_Nat_uint64.f, if_pos (by omega), Option.bind_some, Option.bind_some]
theorem out_ok (s : Bool) {l : List Int} (h : l.length ≤ 1048576) : whole_number_out.f l s = some (s, l) := by
  rw [whole_number_out.f, api_Nat_uint64.f, if_pos (by omega), Option.bind_some]
section
variable {L L' : Nat} {n m : Int} {s t : Bool} {l p : List Int}
theorem AN.add (h : AN L n s l) (g : AN L' m t p) (hL : L ≤ 4000) (hL' : L' ≤ 4000) : ∃ u q, Ev (fun k => whole_Add.f k s l t p) (u, q, 0) ∧ Num 18446744073709551616 (n + m) u q ∧ q.length ≤ max L L' + 1 := by
  obtain ⟨a, s1, ⟨K1, e1⟩, N1, l1⟩ := h
  obtain ⟨b, s2, ⟨K2, e2⟩, N2, l2⟩ := g
  obtain ⟨u, r, ⟨K3, e3⟩, N3⟩ := plus_num N1 N2 (by omega) (by omega)
  have hr := num_len (by decide) N1 N2 N3 (by omega) (L := max L L') (by omega) (by omega)
  refine ⟨u, r, ⟨K1 + K2 + K3, fun k hk => ?_⟩, N3, hr⟩
  have g1 : whole_of.f k s l = _ := e1 k (by omega)
  have g2 : whole_of.f k t p = _ := e2 k (by omega)
  have g3 : whole_number_plus.f k a s1 b s2 = _ := e3 k (by omega)
  show whole_Add.f k s l t p = _
  rw [whole_Add.f, g1, Option.bind_some, g2, Option.bind_some, g3, Option.bind_some, told_ok u (show r.length ≤ 4096 by omega), Option.bind_some]
theorem AN.mul (h : AN L n s l) (g : AN L' m t p) (hL : L + L' ≤ 4096) : ∃ u q, Ev (fun k => whole_Mul.f k s l t p) (u, q, 0) ∧ Num 18446744073709551616 (n * m) u q ∧ q.length ≤ L + L' := by
  obtain ⟨a, s1, ⟨K1, e1⟩, N1, l1⟩ := h
  obtain ⟨b, s2, ⟨K2, e2⟩, N2, l2⟩ := g
  obtain ⟨u, r, ⟨K3, e3⟩, N3⟩ := times_num N1 N2 (by omega) (by omega)
  have hr : r.length ≤ a.length + b.length := by
    refine rep_len (by decide) N3.rep ?_
    rw [Int.natAbs_mul, Int.pow_add]
    have g2 := N1.rep.lt (by decide)
    have g3 := N2.rep.lt (by decide)
    have p1 := pow_pos (B := 18446744073709551616) (by decide) a.length
    have h1 := Int.mul_le_mul_of_nonneg_left (show (m.natAbs : Int) ≤ 18446744073709551616 ^ b.length by omega) (show (0 : Int) ≤ (n.natAbs : Int) by omega)
    have h2 := Int.mul_lt_mul_of_pos_right g2 (pow_pos (B := 18446744073709551616) (by decide) b.length)
    have e : ((n.natAbs * m.natAbs : Nat) : Int) = (n.natAbs : Int) * (m.natAbs : Int) := Int.natCast_mul _ _
    omega
  refine ⟨u, r, ⟨K1 + K2 + K3, fun k hk => ?_⟩, N3, by omega⟩
  have g1 : whole_of.f k s l = _ := e1 k (by omega)
  have g2 : whole_of.f k t p = _ := e2 k (by omega)
  have g3 : whole_number_times.f k a s1 b s2 = _ := e3 k (by omega)
  show whole_Mul.f k s l t p = _
  rw [whole_Mul.f, g1, Option.bind_some, g2, Option.bind_some, g3, Option.bind_some, told_ok u (show r.length ≤ 4096 by omega), Option.bind_some]
theorem nil_num' (B : Int) : Num B 0 false [] := ⟨⟨Dig.nil, trivial, rfl⟩, rfl⟩
theorem AN.sign (h : AN L n s l) (hL : L ≤ 1048576) : Ev (fun k => whole_Sign.f k s l) (sg n) := by
  obtain ⟨a, s1, ⟨K1, e1⟩, N1, l1⟩ := h
  obtain ⟨K3, e3⟩ := cmp_num N1 (nil_num' _) (by omega) (by simp)
  refine ⟨K1 + K3, fun k hk => ?_⟩
  have g1 : whole_of.f k s l = _ := e1 k (by omega)
  have g3 : whole_number_cmp.f k a s1 [] false = _ := e3 k (by omega)
  show whole_Sign.f k s l = _
  rw [whole_Sign.f, g1, Option.bind_some, g3, Option.bind_some, Int.sub_zero]
theorem AN.abs (h : AN L n s l) (hL : L ≤ 1048576) : ∃ q, Ev (fun k => whole_Abs.f k s l) (false, q) ∧ Num 18446744073709551616 (n.natAbs : Int) false q ∧ q.length ≤ L := by
  obtain ⟨a, s1, ⟨K1, e1⟩, N1, l1⟩ := h
  have N := Num.of_rep' (by decide) N1.rep false (n := (n.natAbs : Int)) (by rw [if_neg (by decide)])
  rw [Bool.false_and] at N
  refine ⟨a, ⟨K1, fun k hk => ?_⟩, N, l1⟩
  have g1 : whole_of.f k s l = _ := e1 k (by omega)
  show whole_Abs.f k s l = _
  rw [whole_Abs.f, g1, Option.bind_some, signed_eq, Option.bind_some, Bool.false_and, out_ok _ (show a.length ≤ 1048576 by omega), Option.bind_some]
theorem pair_ok (u v : Bool) {q r : List Int} (hq : q.length ≤ 4096) (hr : r.length ≤ 4096) : Ev (fun k => whole_pair.f k q u r v) (u, q, v, r, 0) := by
  refine ⟨1, fun k hk => ?_⟩
  obtain ⟨k, rfl⟩ : ∃ j, k = j + 1 := ⟨k - 1, by omega⟩
  show whole_pair.f (k + 1) q u r v = _
  rw [whole_pair.f, long_eq, Option.bind_some, if_neg (by simp; omega), long_eq, Option.bind_some, whole_pair.j0, if_neg (by simp; omega), out_ok _ (show q.length ≤ 1048576 by omega), Option.bind_some, out_ok _ (show r.length ≤ 1048576 by omega), Option.bind_some]
theorem AN.quo (h : AN L n s l) (g : AN L' m t p) (hm : m ≠ 0) (hL : L ≤ 4000) (hL' : L' ≤ 4000) : ∃ u q v r, Ev (fun k => whole_Quo.f k s l t p) (u, q, v, r, 0) ∧ Num 18446744073709551616 (qn n m) u q ∧ Num 18446744073709551616 (rn n m) v r ∧ q.length ≤ L ∧ r.length ≤ L' := by
  obtain ⟨a, s1, ⟨K1, e1⟩, N1, l1⟩ := h
  obtain ⟨b, s2, ⟨K2, e2⟩, N2, l2⟩ := g
  obtain ⟨u, q, v, r, ⟨K3, e3⟩, N3, N4⟩ := cut_num N1 N2 hm (by omega) (by omega)
  have hne : ¬ decide (b = []) = true := by simpa using fun h => hm ((num_nil (by decide) N2).1 h)
  have lq := len_small (by decide) N1 N3 (qn_le n m)
  have lr := len_small (by decide) N2 N4 (Int.le_of_lt (rn_lt n hm))
  obtain ⟨K4, e4⟩ := pair_ok u v (q := q) (r := r) (by omega) (by omega)
  refine ⟨u, q, v, r, ⟨K1 + K2 + K3 + K4, fun k hk => ?_⟩, N3, N4, by omega, by omega⟩
  have g1 : whole_of.f k s l = _ := e1 k (by omega)
  have g2 : whole_of.f k t p = _ := e2 k (by omega)
  have g3 : whole_number_cut.f k a s1 b s2 = _ := e3 k (by omega)
  have g4 : whole_pair.f k q u r v = _ := e4 k (by omega)
  show whole_Quo.f k s l t p = _
  rw [whole_Quo.f, g2, Option.bind_some, null_eq, Option.bind_some, if_neg hne, g1, Option.bind_some, g3, Option.bind_some, g4, Option.bind_some]
end
theorem qr_eq (n : Int) {m : Int} (hm : m ≠ 0) : qn n m * m + rn n m = n := by
  have h1 := Int.mul_ediv_add_emod (n.natAbs : Int) (m.natAbs : Int)
  unfold qn rn
  generalize (n.natAbs : Int) / (m.natAbs : Int) = Q at *
  generalize (n.natAbs : Int) % (m.natAbs : Int) = R at *
  generalize hM : (m.natAbs : Int) = M at *
  generalize hA : (n.natAbs : Int) = A at *
  rcases Int.lt_or_le n 0 with h | h <;> rcases Int.lt_or_le m 0 with g | g
  · rw [decide_eq_true h, decide_eq_true g, if_neg (by decide), if_pos rfl, show n = -A from by omega, show m = -M from by omega, Int.mul_neg, Int.mul_comm Q M]; omega
  · rw [decide_eq_true h, decide_eq_false (Int.not_lt.2 g), if_pos (by decide), if_pos rfl, show n = -A from by omega, show m = M from by omega, Int.neg_mul, Int.mul_comm Q M]; omega
  · rw [decide_eq_false (Int.not_lt.2 h), decide_eq_true g, if_pos (by decide), if_neg (by decide), show n = A from by omega, show m = -M from by omega, Int.neg_mul_neg, Int.mul_comm Q M]; omega
  · rw [decide_eq_false (Int.not_lt.2 h), decide_eq_false (Int.not_lt.2 g), if_neg (by decide), if_neg (by decide), show n = A from by omega, show m = M from by omega, Int.mul_comm Q M]; omega
theorem rn_pos (n : Int) {m : Int} (hm : m ≠ 0) : (0 ≤ n → 0 ≤ rn n m) ∧ (n ≤ 0 → rn n m ≤ 0) := by
  have h2 : 0 ≤ (n.natAbs : Int) % (m.natAbs : Int) := Int.emod_nonneg _ (by omega)
  unfold rn
  constructor
  · intro h
    rw [decide_eq_false (by omega), if_neg (by decide)]; exact h2
  · intro h
    rcases Int.lt_or_le n 0 with g | g
    · rw [decide_eq_true g, if_pos rfl]; omega
    · obtain rfl : n = 0 := by omega
      simp
end Go.Proofs.YtodhkpdcpneeeaaDoor.PurePDv
namespace Go.Proofs.YtodhkpdcpneeeaaDoor.PDv
open Go.Proofs.YtodhkpdcpneeeaaDoor.Mine Go.RowKit Go.Proofs.YtodhkpdcpneeeaaDoorW.PrintWords Go.Proofs.YtodhkpdcpneeeaaDoorW.PrintLast Go.Proofs.YtodhkpdcpneeeaaDoorW.PrintMore
open Go.Proofs.YtodhkpdcpneeeaaDoor.Mine
attribute [local go_sem] max2_int min2_int max_two min_two max_three min_three max_four min_four
set_option linter.unusedVariables false
set_option linter.unusedSimpArgs false
end Go.Proofs.YtodhkpdcpneeeaaDoor.PDv
namespace Go.Proofs.YtodhkpdcpneeeaaDoor.PurePDv
set_option linter.unusedVariables false
set_option linter.unusedSimpArgs false
open Go.RowKit Go.Proofs.YtodhkpdcpneeeaaDoorW.PrintWords Go.Proofs.YtodhkpdcpneeeaaDoorW.PrintLast Go.Proofs.YtodhkpdcpneeeaaDoorW.PrintMore Go.Proofs.YtodhkpdcpneeeaaDoor.PDv Go.Proofs.YtodhkpdcpneeeaaDoor Go.Proofs.YtodhkpdcpneeeaaDoor.Mine Big
structure Two (n : Int) (s : Bool) (l d : List Int) : Prop where
  a : Num 18446744073709551616 n s l
  b : Num 65536 n s d
theorem Two.mk' {n : Int} {s t : Bool} {l d : List Int} (h : Num 18446744073709551616 n s l) (g : Num 65536 n t d) : t = s ∧ Two n s l d := by
  have e : t = s := g.sign.trans h.sign.symm
  subst e
  exact ⟨rfl, h, g⟩
theorem Two.len {M n : Int} {L : Nat} (hM1 : M < 18446744073709551616 ^ L) (hM2 : M < 65536 ^ (4 * L)) {s : Bool} {l d : List Int} (h : Two n s l d) (hn : (n.natAbs : Int) ≤ M) : l.length ≤ L ∧ d.length ≤ 4 * L :=
  ⟨rep_len (by decide) h.a.rep (by omega), rep_len (by decide) h.b.rep (by omega)⟩
theorem abs_opp {x1 x2 q : Int} (hq : 0 ≤ q) (h : x1 ≤ 0 ∧ 0 ≤ x2 ∨ 0 ≤ x1 ∧ x2 ≤ 0) : (((x1 - q * x2).natAbs : Int) = (x1.natAbs : Int) + q * (x2.natAbs : Int)) ∧ (x2 ≤ 0 ∧ 0 ≤ x1 - q * x2 ∨ 0 ≤ x2 ∧ x1 - q * x2 ≤ 0) := by
  rcases h with ⟨h1, h2⟩ | ⟨h1, h2⟩
  · have e : (x2.natAbs : Int) = x2 := by omega
    have := Int.mul_nonneg hq h2
    rw [e]
    exact ⟨by omega, .inr ⟨h2, by omega⟩⟩
  · have e : (x2.natAbs : Int) = -x2 := by omega
    have h3 : q * x2 ≤ 0 := by
      have := Int.mul_nonneg hq (show 0 ≤ -x2 by omega)
      rw [Int.mul_neg] at this
      omega
    rw [e, Int.mul_neg]
    exact ⟨by omega, .inl ⟨h2, by omega⟩⟩
theorem bez_step {n1 n2 x1 x2 q r X X1 X2 b0 : Int} (hn : q * n2 + r = n1) (hX : X = X1 + q * X2) (h : X2 * n1 + X1 * n2 = b0) : X * n2 + X2 * r = b0 := by
  subst hX
  rw [← hn, Int.mul_add] at h
  rw [Int.add_mul, Int.mul_assoc, Int.mul_left_comm q X2 n2]
  omega
theorem bez_le {n2 X X2 r b0 M : Int} (h : X * n2 + X2 * r = b0) (hn : 1 ≤ n2) (hX : 0 ≤ X) (h2 : 0 ≤ X2 * r) (hb : b0 ≤ M) : X ≤ M := by
  have := Int.mul_le_mul_of_nonneg_left hn hX
  rw [Int.mul_one] at this
  omega
theorem mul_len {M : Int} {L : Nat} (hM1 : M < 18446744073709551616 ^ L) (hM2 : M < 65536 ^ (4 * L)) {q x : Int} (hq : (q.natAbs : Int) ≤ M) (hx : (x.natAbs : Int) ≤ M) {s : Bool} {l d : List Int} (h : Two (q * x) s l d) : l.length ≤ 2 * L ∧ d.length ≤ 8 * L := by
  have e : ((q * x).natAbs : Int) = (q.natAbs : Int) * (x.natAbs : Int) := by rw [Int.natAbs_mul, Int.natCast_mul]
  have key : ∀ B : Int, 0 < B → ∀ K : Nat, M < B ^ K → ((q * x).natAbs : Int) < B ^ (2 * K) := by
    intro B hB K hM
    rw [e, show 2 * K = K + K from by omega, Int.pow_add]
    have h1 := Int.mul_le_mul_of_nonneg_left (show (x.natAbs : Int) ≤ B ^ K by omega) (show (0 : Int) ≤ (q.natAbs : Int) by omega)
    have h2 := Int.mul_lt_mul_of_pos_right (show (q.natAbs : Int) < B ^ K by omega) (pow_pos hB K)
    omega
  refine ⟨rep_len (by decide) h.a.rep (key _ (by decide) L hM1), ?_⟩
  have := rep_len (by decide) h.b.rep (key 65536 (by decide) (4 * L) hM2)
  omega
theorem fms {M : Int} {L : Nat} (hL : L ≤ 5000) (hM1 : M < 18446744073709551616 ^ L) (hM2 : M < 65536 ^ (4 * L)) {q x1 x2 : Int} {s t u : Bool} {l d m e p f : List Int} (hq : Two q s l d) (h1 : Two x1 t m e) (h2 : Two x2 u p f) (bq : (q.natAbs : Int) ≤ M) (b1 : (x1.natAbs : Int) ≤ M) (b2 : (x2.natAbs : Int) ≤ M) :
    ∃ v r v' r' w z w2 z2 w' z', Ev (fun k => whole_number_times.f k l s p u) (r, v) ∧ Ev (fun k => whole_number_minus.f k m t r v) (z, w) ∧ Ev (fun k => tribunalref02_Times.f k s d u f) (v', r') ∧ Ev (fun k => tribunalref02_Minus.f k v' r') (w2, z2) ∧ Ev (fun k => tribunalref02_Plus.f k t e w2 z2) (w', z') ∧ w' = w ∧ Two (x1 - q * x2) w z z' := by
  have lq := hq.len hM1 hM2 bq
  have l1 := h1.len hM1 hM2 b1
  have l2 := h2.len hM1 hM2 b2
  obtain ⟨v, r, E1, N1⟩ := times_num hq.a h2.a (by omega) (by omega)
  obtain ⟨v', r', E2, M1, _⟩ := rtimes_num hq.b h2.b (by omega) (by omega)
  obtain ⟨ev, T1⟩ := Two.mk' N1 M1
  have lt := mul_len hM1 hM2 bq b2 T1
  obtain ⟨w, z, E3, N2⟩ := minus_num h1.a N1 (by omega) (by omega)
  obtain ⟨w2, z2, E4, M2⟩ := rminus_num M1 (by omega)
  have lz := len_small (by decide) M1 M2 (by omega)
  obtain ⟨w', z', E5, M3⟩ := rplus_num h1.b M2 (by omega) (by omega)
  rw [← Int.sub_eq_add_neg] at M3
  obtain ⟨ew, T2⟩ := Two.mk' N2 M3
  exact ⟨v, r, v', r', w, z, w2, z2, w', z', E1, E3, E2, E4, E5, ew, T2⟩
theorem Ev.step' {α : Type} {f g : Nat → Option α} {z : α} (K0 : Nat) (h : Ev f z) (e : ∀ k, K0 ≤ k → g (k + 1) = f k) : Ev g z := by
  obtain ⟨K, hK⟩ := h
  refine ⟨K + K0 + 1, fun k hk => ?_⟩
  obtain ⟨k, rfl⟩ : ∃ j, k = j + 1 := ⟨k - 1, by omega⟩
  rw [e k (by omega)]
  exact hK k (by omega)
theorem rd_T25_nat'' (l : List S25) (n : Nat) (h : n < l.length) : rd_T25 l (n : Int) = l[n] := by
  simp [rd_T25, List.getD_eq_getElem?_getD, List.getElem?_eq_getElem h]
theorem gcd_mod (a b : Nat) : Nat.gcd a b = Nat.gcd b (a % b) := by rw [Nat.gcd_comm, Nat.gcd_rec, Nat.gcd_comm]
theorem gcd_rn (n : Int) {m : Int} (hm : m ≠ 0) : Nat.gcd n.natAbs m.natAbs = Nat.gcd m.natAbs (rn n m).natAbs := by
  have h : (rn n m).natAbs = n.natAbs % m.natAbs := by
    have := rn_abs n hm
    rw [← Int.natCast_emod] at this
    exact Int.ofNat.inj this
  rw [h, ← gcd_mod]
theorem Gcd_l2 (l : List S25) (x24 x25 : Int) : ∀ (g u v : Nat) (x6 x9 : List Int), v ≤ g → Rep 18446744073709551616 (u : Int) x6 → Rep 18446744073709551616 (v : Int) x9 → x6.length ≤ 8388600 → x9.length ≤ 8388600 →
    ∃ r, Rep 18446744073709551616 ((Nat.gcd u v : Nat) : Int) r ∧ ∀ z, Ev (fun k => whole_Gcd.l1 k r l x24 (wrap64 (x25 + 1))) z → Ev (fun k => whole_Gcd.l2 k x6 x9 l x24 x25) z := by
  intro g
  induction g with
  | zero =>
    intro u v x6 x9 hv h1 h2 l1 l2
    obtain rfl : v = 0 := by omega
    have e : x9 = [] := (h2.nil_iff (by decide)).2 rfl
    subst e
    refine ⟨x6, by rw [Nat.gcd_zero_right]; exact h1, fun z hz => Ev.step' 0 hz fun k _ => ?_⟩
    rw [whole_Gcd.l2, null_eq, Option.bind_some, if_pos (by simp)]
  | succ g ih =>
    intro u v x6 x9 hv h1 h2 l1 l2
    by_cases h0 : v = 0
    · subst h0
      have e : x9 = [] := (h2.nil_iff (by decide)).2 rfl
      subst e
      refine ⟨x6, by rw [Nat.gcd_zero_right]; exact h1, fun z hz => Ev.step' 0 hz fun k _ => ?_⟩
      rw [whole_Gcd.l2, null_eq, Option.bind_some, if_pos (by simp)]
    · obtain ⟨q, r, ⟨K, hK⟩, hq, hr⟩ := quo_ev h1 h2 (by omega) l1 l2
      have hlt := Nat.mod_lt u (show 0 < v by omega)
      rw [← Int.natCast_emod] at hr
      have lr := rep_len (by decide) hr (Int.lt_of_le_of_lt (show ((u % v : Nat) : Int) ≤ (v : Int) by omega) (h2.lt (by decide)))
      have hne : ¬ decide (x9 = []) = true := by
        have := h2.nil_iff (by decide)
        simp [this, h0]
      obtain ⟨s, hs, hz'⟩ := ih v (u % v) x9 r (by omega) h2 hr l2 (by omega)
      refine ⟨s, by rw [gcd_mod]; exact hs, fun z hz => Ev.step' K (hz' z hz) fun k hk => ?_⟩
      have e : whole_amount_quo.f k x6 x9 = _ := hK k hk
      rw [whole_Gcd.l2, null_eq, Option.bind_some, if_neg hne, e, Option.bind_some]
theorem Gcd_s0 (k : Nat) (l : List S25) (i : Nat) (a1 : List Int) (s1 : Bool) (hi : i < l.length) (hl : l.length ≤ 1048576) (h1 : whole_of.f k l[i].f0 l[i].f1 = some (a1, s1)) (h2 : a1.length ≤ 4096) :
    whole_Gcd.l0 (k + 1) l l (l.length : Int) (i : Int) = whole_Gcd.l0 k l l (l.length : Int) ((i + 1 : Nat) : Int) := by
  have hwr : wrap64 ((i : Int) + 1) = ((i + 1 : Nat) : Int) := by rw [w64 _ (by omega)]; omega
  rw [whole_Gcd.l0, if_pos (by omega), if_pos (by omega), if_pos (by omega), rd_T25_nat'' l i hi, h1, Option.bind_some, long_eq, Option.bind_some, if_neg (by simpa using by omega), hwr]
theorem Gcd_e0 (k : Nat) (l : List S25) : whole_Gcd.l0 (k + 1) l l (l.length : Int) (l.length : Int) = whole_Gcd.l1 k [] l (l.length : Int) 0 := by
  rw [whole_Gcd.l0, if_neg (by omega)]
theorem Gcd_s1 (k : Nat) (l : List S25) (i : Nat) (x6 a1 : List Int) (s1 : Bool) (hi : i < l.length) (hl : l.length ≤ 1048576) (h1 : whole_of.f k l[i].f0 l[i].f1 = some (a1, s1)) :
    whole_Gcd.l1 (k + 1) x6 l (l.length : Int) (i : Int) = whole_Gcd.l2 k x6 a1 l (l.length : Int) (i : Int) := by
  rw [whole_Gcd.l1, if_pos (by omega), if_pos (by omega), if_pos (by omega), rd_T25_nat'' l i hi, h1, Option.bind_some]
theorem Gcd_e1 (k : Nat) (l : List S25) (r : List Int) (hr : r.length ≤ 4096) : whole_Gcd.l1 (k + 1) r l (l.length : Int) (l.length : Int) = some (false, r, 0) := by
  rw [whole_Gcd.l1, if_neg (by omega), signed_eq, Option.bind_some, Bool.false_and, told_ok false hr, Option.bind_some]
theorem Gcd_two {n m : Int} {s t : Bool} {l p : List Int} {L : Nat} (hL : L ≤ 4000) (h : AN L n s l) (g : AN L m t p) : ∃ r, Ev (fun k => whole_Gcd.f k [⟨s, l⟩, ⟨t, p⟩]) (false, r, 0) ∧ Num 18446744073709551616 ((Nat.gcd n.natAbs m.natAbs : Nat) : Int) false r := by
  obtain ⟨a, s1, ⟨K1, e1⟩, N1, l1⟩ := h
  obtain ⟨b, s2, ⟨K2, e2⟩, N2, l2⟩ := g
  obtain ⟨r1, hr1, c1⟩ := Gcd_l2 [⟨s, l⟩, ⟨t, p⟩] 2 0 n.natAbs 0 n.natAbs [] a (Nat.le_refl _) (nil_num' _).rep N1.rep (by simp) (by omega)
  rw [Nat.gcd_zero_left] at hr1
  obtain rfl := hr1.uniq (by decide) N1.rep
  obtain ⟨r, hr, c2⟩ := Gcd_l2 [⟨s, l⟩, ⟨t, p⟩] 2 1 m.natAbs n.natAbs m.natAbs r1 b (Nat.le_refl _) N1.rep N2.rep (by omega) (by omega)
  rw [show wrap64 ((0 : Int) + 1) = 1 from (w64 _ (by omega)).trans rfl] at c1
  rw [show wrap64 ((1 : Int) + 1) = 2 from (w64 _ (by omega)).trans rfl] at c2
  have lr : r.length ≤ 4096 := by
    by_cases hn : n.natAbs = 0
    · rw [hn, Nat.gcd_zero_left] at hr
      rw [hr.uniq (by decide) N2.rep]; omega
    · have h1 := Nat.gcd_le_left m.natAbs (show 0 < n.natAbs by omega)
      have := rep_len (by decide) hr (Int.lt_of_le_of_lt (show _ ≤ (n.natAbs : Int) by omega) (N1.rep.lt (by decide)))
      omega
  have z2 : Ev (fun k => whole_Gcd.l1 k r [⟨s, l⟩, ⟨t, p⟩] 2 2) (false, r, 0) := Ev.step' (f := fun _ => some (false, r, 0)) 0 ⟨0, fun _ _ => rfl⟩ fun k _ => Gcd_e1 k [⟨s, l⟩, ⟨t, p⟩] r lr
  have z0 : Ev (fun k => whole_Gcd.l1 k r1 [⟨s, l⟩, ⟨t, p⟩] 2 1) (false, r, 0) := Ev.step' K2 (c2 _ z2) fun k hk => Gcd_s1 k [⟨s, l⟩, ⟨t, p⟩] 1 r1 b s2 (by simp) (by simp) (e2 k hk)
  have y1 : Ev (fun k => whole_Gcd.l1 k [] [⟨s, l⟩, ⟨t, p⟩] 2 0) (false, r, 0) := Ev.step' K1 (c1 _ z0) fun k hk => Gcd_s1 k [⟨s, l⟩, ⟨t, p⟩] 0 [] r1 s1 (by simp) (by simp) (e1 k hk)
  have y0 : Ev (fun k => whole_Gcd.l0 k [⟨s, l⟩, ⟨t, p⟩] [⟨s, l⟩, ⟨t, p⟩] 2 2) (false, r, 0) := Ev.step' 0 y1 fun k _ => Gcd_e0 k [⟨s, l⟩, ⟨t, p⟩]
  have x1 : Ev (fun k => whole_Gcd.l0 k [⟨s, l⟩, ⟨t, p⟩] [⟨s, l⟩, ⟨t, p⟩] 2 1) (false, r, 0) := Ev.step' K2 y0 fun k hk => Gcd_s0 k [⟨s, l⟩, ⟨t, p⟩] 1 b s2 (by simp) (by simp) (e2 k hk) (by omega)
  have x0 : Ev (fun k => whole_Gcd.l0 k [⟨s, l⟩, ⟨t, p⟩] [⟨s, l⟩, ⟨t, p⟩] 2 0) (false, r, 0) := Ev.step' K1 x1 fun k hk => Gcd_s0 k [⟨s, l⟩, ⟨t, p⟩] 0 r1 s1 (by simp) (by simp) (e1 k hk) (by omega)
  exact ⟨r, x0, ⟨by rw [Int.natAbs_natCast]; exact hr, by simp⟩⟩
theorem ext_val {M a0 b0 : Int} {L : Nat} (hL : L ≤ 5000) (hM1 : M < 18446744073709551616 ^ L) (hM2 : M < 65536 ^ (4 * L)) (ha : a0 ≤ M) (hb : b0 ≤ M) (pb qb : Bool) : ∀ (g : Nat) (n1 x1 y1 n2 x2 y2 : Int) (s1 t1 u1 s2 t2 u2 : Bool) (N1 X1 Y1 N2 X2 Y2 D1 E1 F1 D2 E2 F2 : List Int),
    n2.natAbs ≤ g → 0 ≤ n1 → 0 ≤ n2 → n1 ≤ M → n2 ≤ M → (x2.natAbs : Int) * n1 + (x1.natAbs : Int) * n2 = b0 → (y2.natAbs : Int) * n1 + (y1.natAbs : Int) * n2 = a0 → (x1 ≤ 0 ∧ 0 ≤ x2 ∨ 0 ≤ x1 ∧ x2 ≤ 0) → (y1 ≤ 0 ∧ 0 ≤ y2 ∨ 0 ≤ y1 ∧ y2 ≤ 0) →
    (x1.natAbs : Int) ≤ M → (x2.natAbs : Int) ≤ M → (y1.natAbs : Int) ≤ M → (y2.natAbs : Int) ≤ M → x1 * a0 + y1 * b0 = n1 → x2 * a0 + y2 * b0 = n2 →
    Two n1 s1 N1 D1 → Two x1 t1 X1 E1 → Two y1 u1 Y1 F1 → Two n2 s2 N2 D2 → Two x2 t2 X2 E2 → Two y2 u2 Y2 F2 →
    ∃ X Y z1 z2 z3 N' X' Y', Ev (fun k => whole_Extended.l0 k pb qb N1 s1 X1 t1 Y1 u1 N2 s2 X2 t2 Y2 u2) (z1, N', z2, X', z3, Y', 0) ∧ Num 18446744073709551616 ((Nat.gcd n1.natAbs n2.natAbs : Nat) : Int) z1 N' ∧ Num 18446744073709551616 (if pb = true then -X else X) z2 X' ∧ Num 18446744073709551616 (if qb = true then -Y else Y) z3 Y' ∧ X * a0 + Y * b0 = ((Nat.gcd n1.natAbs n2.natAbs : Nat) : Int) ∧ N'.length ≤ L ∧ X'.length ≤ L ∧ Y'.length ≤ L := by
  have fin : ∀ (n1 x1 y1 : Int) (s1 t1 u1 s2 t2 u2 : Bool) (N1 X1 Y1 X2 Y2 D1 E1 F1 : List Int), 0 ≤ n1 → n1 ≤ M → (x1.natAbs : Int) ≤ M → (y1.natAbs : Int) ≤ M → x1 * a0 + y1 * b0 = n1 → Two n1 s1 N1 D1 → Two x1 t1 X1 E1 → Two y1 u1 Y1 F1 →
      ∃ X Y z1 z2 z3 N' X' Y', Ev (fun k => whole_Extended.l0 k pb qb N1 s1 X1 t1 Y1 u1 [] s2 X2 t2 Y2 u2) (z1, N', z2, X', z3, Y', 0) ∧ Num 18446744073709551616 ((Nat.gcd n1.natAbs (0 : Int).natAbs : Nat) : Int) z1 N' ∧ Num 18446744073709551616 (if pb = true then -X else X) z2 X' ∧ Num 18446744073709551616 (if qb = true then -Y else Y) z3 Y' ∧ X * a0 + Y * b0 = ((Nat.gcd n1.natAbs (0 : Int).natAbs : Nat) : Int) ∧ N'.length ≤ L ∧ X'.length ≤ L ∧ Y'.length ≤ L := by
    intro n1 x1 y1 s1 t1 u1 s2 t2 u2 N1 X1 Y1 X2 Y2 D1 E1 F1 p1 m1 bx1 by1 hv A1 A2 A3
    have l1 := A1.len hM1 hM2 (by omega)
    have l2 := A2.len hM1 hM2 bx1
    have l3 := A3.len hM1 hM2 by1
    have hg : ((Nat.gcd n1.natAbs (0 : Int).natAbs : Nat) : Int) = n1 := by rw [Int.natAbs_zero, Nat.gcd_zero_right]; omega
    obtain ⟨zx, fx, Nx⟩ := opposite_num A2.a
    obtain ⟨zy, fy, Ny⟩ := opposite_num A3.a
    rw [hg]
    refine ⟨x1, y1, s1, (if pb = true then zx else t1), (if qb = true then zy else u1), N1, X1, Y1, ⟨1, fun k hk => ?_⟩, A1.a, ?_, ?_, hv, l1.1, l2.1, l3.1⟩
    · obtain ⟨k, rfl⟩ : ∃ j, k = j + 1 := ⟨k - 1, by omega⟩
      show whole_Extended.l0 (k + 1) pb qb N1 s1 X1 t1 Y1 u1 [] s2 X2 t2 Y2 u2 = _
      rw [whole_Extended.l0, null_eq, Option.bind_some, if_pos (decide_eq_true rfl)]
      cases pb <;> cases qb
      · rw [if_neg (by decide), if_neg (by decide), if_neg (by decide), if_neg (by decide), out_ok _ (by omega), Option.bind_some, out_ok _ (by omega), Option.bind_some, out_ok _ (by omega), Option.bind_some]
      · rw [if_neg (by decide), if_pos rfl, if_neg (by decide), if_pos rfl, fy, Option.bind_some, out_ok _ (by omega), Option.bind_some, out_ok _ (by omega), Option.bind_some, out_ok _ (show Y1.length ≤ 1048576 by omega), Option.bind_some]
      · rw [if_pos rfl, if_pos rfl, if_neg (by decide), fx, Option.bind_some, if_neg (by decide), out_ok _ (by omega), Option.bind_some, out_ok _ (show X1.length ≤ 1048576 by omega), Option.bind_some, out_ok _ (by omega), Option.bind_some]
      · rw [if_pos rfl, if_pos rfl, if_pos rfl, fx, Option.bind_some, if_pos rfl, fy, Option.bind_some, out_ok _ (by omega), Option.bind_some, out_ok _ (show X1.length ≤ 1048576 by omega), Option.bind_some, out_ok _ (show Y1.length ≤ 1048576 by omega), Option.bind_some]
    · cases pb
      · exact A2.a
      · exact Nx
    · cases qb
      · exact A3.a
      · exact Ny
  intro g
  induction g with
  | zero =>
    intro n1 x1 y1 n2 x2 y2 s1 t1 u1 s2 t2 u2 N1 X1 Y1 N2 X2 Y2 D1 E1 F1 D2 E2 F2 hg p1 p2 m1 m2 i1 i2 sx sy bx1 bx2 by1 by2 v1 v2 A1 A2 A3 A4 A5 A6
    obtain rfl : n2 = 0 := by omega
    obtain rfl := (num_nil (by decide) A4.a).2 rfl
    exact fin n1 x1 y1 s1 t1 u1 s2 t2 u2 N1 X1 Y1 X2 Y2 D1 E1 F1 p1 m1 bx1 by1 v1 A1 A2 A3
  | succ g ih =>
    intro n1 x1 y1 n2 x2 y2 s1 t1 u1 s2 t2 u2 N1 X1 Y1 N2 X2 Y2 D1 E1 F1 D2 E2 F2 hg p1 p2 m1 m2 i1 i2 sx sy bx1 bx2 by1 by2 v1 v2 A1 A2 A3 A4 A5 A6
    by_cases hz : n2 = 0
    · subst hz
      obtain rfl := (num_nil (by decide) A4.a).2 rfl
      exact fin n1 x1 y1 s1 t1 u1 s2 t2 u2 N1 X1 Y1 X2 Y2 D1 E1 F1 p1 m1 bx1 by1 v1 A1 A2 A3
    · have l1 := A1.len hM1 hM2 (by omega)
      have l4 := A4.len hM1 hM2 (by omega)
      obtain ⟨c1, q1, c2, r1, ⟨K1, e1⟩, Q1, R1⟩ := cut_num A1.a A4.a hz (by omega) (by omega)
      obtain ⟨c3, q3, c4, r3, _, Q2, R2, _, _⟩ := Cut_num A1.b A4.b hz (by omega) (by omega)
      obtain ⟨ec, TQ⟩ := Two.mk' Q1 Q2
      obtain ⟨er, TR⟩ := Two.mk' R1 R2
      subst ec; subst er
      have hqr := qr_eq n1 hz
      have hr0 := (rn_pos n1 hz).1 p1
      have hr1 := rn_lt n1 hz
      have hq0 : 0 ≤ qn n1 n2 := by
        have : ¬ qn n1 n2 < 0 := by
          intro hneg
          have h1 := Int.mul_le_mul_of_nonneg_right (show qn n1 n2 ≤ -1 by omega) p2
          omega
        omega
      have hqM : ((qn n1 n2).natAbs : Int) ≤ M := by have := qn_le n1 n2; omega
      obtain ⟨v, r, v', r', w, z, w2, z2, w', z', ⟨K2, e2⟩, ⟨K3, e3⟩, _, _, _, ew, T1⟩ := fms hL hM1 hM2 TQ A1 A4 hqM (by omega) (by omega)
      obtain ⟨xv, xr, xv', xr', xw, xz, xw2, xz2, xw', xz', ⟨K4, e4⟩, ⟨K5, e5⟩, _, _, _, exw, T2⟩ := fms hL hM1 hM2 TQ A2 A5 hqM bx1 bx2
      obtain ⟨yv, yr, yv', yr', yw, yz, yw2, yz2, yw', yz', ⟨K6, e6⟩, ⟨K7, e7⟩, _, _, _, eyw, T3⟩ := fms hL hM1 hM2 TQ A3 A6 hqM by1 by2
      subst exw; subst eyw
      have hrn : n1 - qn n1 n2 * n2 = rn n1 n2 := by omega
      rw [hrn] at T1
      obtain ⟨es, el⟩ := T1.a.uniq (by decide) TR.a
      subst es; subst el
      obtain ⟨ax, gx⟩ := abs_opp hq0 sx
      obtain ⟨ay, gy⟩ := abs_opp hq0 sy
      have j1 := bez_step (x1 := x1) (x2 := x2) hqr ax i1
      have j2 := bez_step (x1 := y1) (x2 := y2) hqr ay i2
      have kx := bez_le j1 (by omega) (by omega) (Int.mul_nonneg (by omega) hr0) hb
      have ky := bez_le j2 (by omega) (by omega) (Int.mul_nonneg (by omega) hr0) ha
      have v3 : (x1 - qn n1 n2 * x2) * a0 + (y1 - qn n1 n2 * y2) * b0 = rn n1 n2 := by
        have h := congrArg (fun z => qn n1 n2 * z) v2
        simp only [Int.mul_add] at h
        rw [Int.sub_mul, Int.sub_mul, Int.mul_assoc, Int.mul_assoc]
        omega
      obtain ⟨X, Y, z1, z2, z3, N', X', Y', ⟨K8, e8⟩, M1, M2, M3, hv, b1, b2, b3⟩ := ih n2 x2 y2 (rn n1 n2) _ _ _ _ _ _ _ _ _ _ _ _ _ _ _ _ _ _ _ _ (by omega) p2 hr0 m2 (by omega) j1 j2 gx gy bx2 kx by2 ky v2 v3 A4 A5 A6 TR T2 T3
      rw [← gcd_rn n1 hz] at M1 hv
      refine ⟨X, Y, z1, z2, z3, N', X', Y', ⟨K1 + K2 + K3 + K4 + K5 + K6 + K7 + K8 + 1, fun k hk => ?_⟩, M1, M2, M3, hv, b1, b2, b3⟩
      obtain ⟨k, rfl⟩ : ∃ j, k = j + 1 := ⟨k - 1, by omega⟩
      have hne : ¬ decide (N2 = []) = true := by simpa using fun h => hz ((num_nil (by decide) A4.a).1 h)
      have g1 : whole_number_cut.f k N1 s1 N2 s2 = _ := e1 k (by omega)
      have g2 : whole_number_times.f k q1 c3 N2 s2 = _ := e2 k (by omega)
      have g3 : whole_number_minus.f k N1 s1 r v = _ := e3 k (by omega)
      have g4 : whole_number_times.f k q1 c3 X2 t2 = _ := e4 k (by omega)
      have g5 : whole_number_minus.f k X1 t1 xr xv = _ := e5 k (by omega)
      have g6 : whole_number_times.f k q1 c3 Y2 u2 = _ := e6 k (by omega)
      have g7 : whole_number_minus.f k Y1 u1 yr yv = _ := e7 k (by omega)
      show whole_Extended.l0 (k + 1) pb qb N1 s1 X1 t1 Y1 u1 N2 s2 X2 t2 Y2 u2 = _
      rw [whole_Extended.l0, null_eq, Option.bind_some, if_neg hne, g1, Option.bind_some, g2, Option.bind_some, g3, Option.bind_some, g4, Option.bind_some, g5, Option.bind_some, g6, Option.bind_some, g7, Option.bind_some]
      exact e8 k (by omega)
end Go.Proofs.YtodhkpdcpneeeaaDoor.PurePDv
namespace Go.Proofs.YtodhkpdcpneeeaaDoor.PurePDv
set_option linter.unusedVariables false
set_option linter.unusedSimpArgs false
open Go.RowKit Go.Proofs.YtodhkpdcpneeeaaDoorW.PrintWords Go.Proofs.YtodhkpdcpneeeaaDoorW.PrintLast Go.Proofs.YtodhkpdcpneeeaaDoorW.PrintMore Go.Proofs.YtodhkpdcpneeeaaDoor.PDv Go.Proofs.YtodhkpdcpneeeaaDoor Go.Proofs.YtodhkpdcpneeeaaDoor.Mine Big
theorem sum_lt' {B x y : Int} {c : Nat} (hB : 4 ≤ B) (hx : x < B ^ c) (hy : y < B ^ c) : x + y + 1 < B ^ (c + 1) := by
  rw [Int.pow_succ]
  have h1 := pow_pos (B := B) (by omega) c
  have := Int.mul_le_mul_of_nonneg_left hB (Int.le_of_lt h1)
  omega
theorem num_abs' {B n : Int} {s : Bool} {a : List Int} (h : Num B n s a) : Num B (n.natAbs : Int) false a := ⟨by rw [Int.natAbs_natCast]; exact h.rep, by simp⟩
theorem signed_mul {n X : Int} {s : Bool} (h : s = decide (n < 0)) : n * (if s = true then -X else X) = X * (n.natAbs : Int) := by
  cases s
  · have : ¬ n < 0 := of_decide_eq_false h.symm
    rw [if_neg (by decide), Int.mul_comm, show (n.natAbs : Int) = n from by omega]
  · have : n < 0 := of_decide_eq_true h.symm
    rw [if_pos rfl, show (n.natAbs : Int) = -n from by omega, Int.mul_neg, Int.mul_neg, Int.mul_comm]
theorem ext_num {n m : Int} {s s1 t s2 : Bool} {l a d p b e : List Int} {c : Nat} (hc : c ≤ 4000) (E1 : Ev (fun k => whole_of.f k s l) (a, s1)) (A : Two n s1 a d) (E2 : Ev (fun k => whole_of.f k t p) (b, s2)) (G : Two m s2 b e) (hl : a.length ≤ c) (hp : b.length ≤ c) :
    ∃ X Y z1 z2 z3 N' X' Y', Ev (fun k => whole_Extended.f k s l t p) (z1, N', z2, X', z3, Y', 0) ∧ Num 18446744073709551616 ((Nat.gcd n.natAbs m.natAbs : Nat) : Int) z1 N' ∧ Num 18446744073709551616 X z2 X' ∧ Num 18446744073709551616 Y z3 Y' ∧ n * X + m * Y = ((Nat.gcd n.natAbs m.natAbs : Nat) : Int) ∧ N'.length ≤ c + 1 ∧ X'.length ≤ c + 1 ∧ Y'.length ≤ c + 1 := by
  have ld := len4 A.a.rep.dig (A.a.rep.val) A.b.rep
  have le := len4 G.a.rep.dig (G.a.rep.val) G.b.rep
  obtain ⟨u1, d1, _, M1⟩ := Make_num (n := (n.natAbs : Int)) false (by omega) A.b.rep.dig A.b.rep.val (by simp)
  obtain ⟨u2, d2, _, M2, _⟩ := Small1_num (n := 1) (by omega)
  obtain ⟨u3, d3, _, M3⟩ := Make_num (n := (m.natAbs : Int)) false (by omega) G.b.rep.dig G.b.rep.val (by simp)
  obtain ⟨q1, T1⟩ := Two.mk' (num_abs' A.a) M1
  obtain ⟨q2, T2⟩ := Two.mk' one_num.2 M2
  obtain ⟨q3, T3⟩ := Two.mk' (num_abs' G.a) M3
  subst q1; subst q2; subst q3
  have T0 : Two 0 false [] [] := ⟨nil_num' _, nil_num' _⟩
  have x1 := Int.lt_of_lt_of_le (A.a.rep.lt (by decide)) (pow_le_pow (by decide) hl)
  have x2 := Int.lt_of_lt_of_le (G.a.rep.lt (by decide)) (pow_le_pow (by decide) hp)
  have hM1 := sum_lt' (by decide) x1 x2
  have hM2 : (n.natAbs : Int) + (m.natAbs : Int) + 1 < 65536 ^ (4 * (c + 1)) := by
    have := hM1
    rw [pow4, ← Int.pow_mul] at this
    exact this
  obtain ⟨X, Y, z1, z2, z3, N', X', Y', ⟨K3, e3⟩, W1, W2, W3, hv, b1, b2, b3⟩ := ext_val (M := (n.natAbs : Int) + (m.natAbs : Int) + 1) (a0 := (n.natAbs : Int)) (b0 := (m.natAbs : Int)) (L := c + 1) (by omega) hM1 hM2 (by omega) (by omega) s1 s2 (m.natAbs : Int).natAbs (n.natAbs : Int) 1 0 (m.natAbs : Int) 0 1 _ _ _ _ _ _ _ _ _ _ _ _ _ _ _ _ _ _ (Nat.le_refl _) (by omega) (by omega) (by omega) (by omega) (by simp) (by simp) (.inr ⟨by omega, by omega⟩) (.inl ⟨by omega, by omega⟩) (by simp; omega) (by simp; omega) (by simp; omega) (by simp; omega) (by simp) (by simp) T1 T2 T0 T3 T0 T2
  rw [Int.natAbs_natCast, Int.natAbs_natCast] at W1 hv
  obtain ⟨K1, e1⟩ := E1
  obtain ⟨K2, e2⟩ := E2
  refine ⟨_, _, z1, z2, z3, N', X', Y', ⟨K1 + K2 + K3, fun k hk => ?_⟩, W1, W2, W3, ?_, b1, b2, b3⟩
  · have g1 : whole_of.f k s l = _ := e1 k (by omega)
    have g2 : whole_of.f k t p = _ := e2 k (by omega)
    have g3 : whole_Extended.l0 k s1 s2 a false [1] false [] false b false [] false [1] false = _ := e3 k (by omega)
    show whole_Extended.f k s l t p = _
    rw [whole_Extended.f, g1, Option.bind_some, g2, Option.bind_some, long_eq, Option.bind_some, if_neg (by simpa using by omega), long_eq, Option.bind_some, if_neg (by simpa using by omega), signed_eq, Option.bind_some, one_num.1, Option.bind_some, signed_eq, Option.bind_some, Option.bind_some, Bool.false_and, Bool.false_and]
    exact g3
  · rw [signed_mul A.a.sign, signed_mul G.a.sign, hv]
theorem gcd_rn0 (n : Int) {g : Nat} (hg : g ≠ 0) (hd : g ∣ n.natAbs) : rn n (g : Int) = 0 := by
  have h := rn_abs n (m := (g : Int)) (by omega)
  rw [Int.natAbs_natCast, Int.emod_eq_zero_of_dvd (Int.natCast_dvd_natCast.2 hd)] at h
  omega
theorem bezout_main {n m d : Int} {s s1 t s2 v : Bool} {l a dd p b e q : List Int} (E1 : Ev (fun k => whole_of.f k s l) (a, s1)) (A : Two n s1 a dd) (E2 : Ev (fun k => whole_of.f k t p) (b, s2)) (G : Two m s2 b e) (hl : a.length ≤ 1000) (hp : b.length ≤ 1000) (h3 : AN 1000 d v q) (c1 : l.length ≤ 1000) (c2 : p.length ≤ 1000) (c3 : q.length ≤ 1000) : ∃ k, tribunallaw02_WholeBezout.f k s l t p v q = some true := by
  have h1 : AN 1000 n s l := ⟨a, s1, E1, A.a, hl⟩
  have h2 : AN 1000 m t p := ⟨b, s2, E2, G.a, hp⟩
  obtain ⟨K0, e0⟩ := awake_ev
  obtain ⟨X, Y, z1, z2, z3, N', X', Y', ⟨K1, e1⟩, W1, W2, W3, hv, b1, b2, b3⟩ := ext_num (c := 1000) (by omega) E1 A E2 G hl hp
  have hgd1 := Nat.gcd_dvd_left n.natAbs m.natAbs
  have hgd2 := Nat.gcd_dvd_right n.natAbs m.natAbs
  obtain ⟨u2, q2, ⟨K2, e2⟩, N2, l2⟩ := h1.mul (AN.of W2 (L := 1001) (by omega) (by omega)) (by omega)
  obtain ⟨u3, q3, ⟨K3, e3⟩, N3, l3⟩ := h2.mul (AN.of W3 (L := 1001) (by omega) (by omega)) (by omega)
  obtain ⟨u4, q4, ⟨K4, e4⟩, N4, l4⟩ := (AN.of N2 (L := 2001) (by omega) (by omega)).add (AN.of N3 (L := 2001) (by omega) (by omega)) (by omega) (by omega)
  rw [hv] at N4
  obtain ⟨rfl, rfl⟩ := W1.uniq (by decide) N4
  obtain ⟨q5, ⟨K5, e5⟩, N5⟩ := Gcd_two (L := 1000) (by omega) h1 h2
  obtain ⟨rfl, rfl⟩ := W1.uniq (by decide) N5
  obtain ⟨K6, e6⟩ := Same_ev false q5 (by omega)
  have AG := AN.of W1 (L := 1001) (by omega) (by omega)
  obtain ⟨K7, e7⟩ := AG.sign (by omega)
  have sh : ∀ (b : Bool) (x : List Int), x.length ≤ 1000 → tribunallaw02_short.f b x = some true := fun b x hx => by
    show some (decide ((x.length : Int) ≤ 1000)) = _
    rw [decide_eq_true (by omega)]
  generalize hg : Nat.gcd n.natAbs m.natAbs = g at *
  have ng : ¬ sg (g : Int) < 0 := by
    rcases Int.lt_trichotomy (g : Int) 0 with h | h | h
    · omega
    · rw [sg_zero h]; omega
    · rw [sg_pos h]; omega
  by_cases h0 : g = 0
  · have hn : n = 0 := by rw [h0] at hgd1; have := Nat.eq_zero_of_zero_dvd hgd1; omega
    have hm : m = 0 := by rw [h0] at hgd2; have := Nat.eq_zero_of_zero_dvd hgd2; omega
    obtain ⟨K8, e8⟩ := h1.sign (by omega)
    obtain ⟨K9, e9⟩ := h2.sign (by omega)
    obtain ⟨k, hk⟩ : ∃ k, k = K0 + K1 + K2 + K3 + K4 + K5 + K6 + K7 + K8 + K9 := ⟨_, rfl⟩
    refine ⟨k, ?_⟩
    have g0 : tribunallaw02_awake.f k = _ := e0 k (by omega)
    have g1 : whole_Extended.f k s l t p = _ := e1 k (by omega)
    have g2 : whole_Mul.f k s l z2 X' = _ := e2 k (by omega)
    have g3 : whole_Mul.f k t p z3 Y' = _ := e3 k (by omega)
    have g4 : whole_Add.f k u2 q2 u3 q3 = _ := e4 k (by omega)
    have g5 : whole_Gcd.f k [⟨s, l⟩, ⟨t, p⟩] = _ := e5 k (by omega)
    have g6 : tribunalref02_Same.f k false q5 false q5 = _ := e6 k (by omega)
    have g7 : whole_Sign.f k false q5 = _ := e7 k (by omega)
    have g8 : whole_Sign.f k s l = _ := e8 k (by omega)
    have g9 : whole_Sign.f k t p = _ := e9 k (by omega)
    rw [tribunallaw02_WholeBezout.f, g0, Option.bind_some, if_pos rfl, sh s l c1, Option.bind_some, if_pos rfl, sh t p c2, Option.bind_some, if_pos rfl, sh v q c3, Option.bind_some, if_pos rfl]
    rw [g1, Option.bind_some, g2, Option.bind_some, g3, Option.bind_some, g4, Option.bind_some, g5, Option.bind_some, if_pos rfl, if_pos rfl, if_pos rfl, if_pos rfl, if_pos rfl, g6, Option.bind_some, if_pos rfl, Option.bind_some, if_pos rfl, g7, Option.bind_some, if_neg ng, Option.bind_some, if_pos (sg_zero (by omega)), g8, Option.bind_some, if_pos (sg_zero hn), g9, Option.bind_some, sg_zero hm]
    rfl
  · have hgz : (g : Int) ≠ 0 := by omega
    obtain ⟨u8, q8, v8, r8, ⟨K8, e8⟩, N8, R8, _, lr8⟩ := h1.quo AG hgz (by omega) (by omega)
    obtain ⟨u9, q9, v9, r9, ⟨K9, e9⟩, N9, R9, _, lr9⟩ := h2.quo AG hgz (by omega) (by omega)
    rw [gcd_rn0 n h0 hgd1] at R8
    rw [gcd_rn0 m h0 hgd2] at R9
    obtain ⟨K10, e10⟩ := (AN.of R8 (L := 1001) (by omega) (by omega)).sign (by omega)
    obtain ⟨K11, e11⟩ := (AN.of R9 (L := 1001) (by omega) (by omega)).sign (by omega)
    obtain ⟨u12, q12, ⟨K12, e12⟩, N12, l12⟩ := h1.mul h3 (by omega)
    obtain ⟨u13, q13, ⟨K13, e13⟩, N13, l13⟩ := h2.mul h3 (by omega)
    obtain ⟨q14, ⟨K14, e14⟩, N14, l14⟩ := h3.abs (by omega)
    obtain ⟨u15, q15, ⟨K15, e15⟩, N15, l15⟩ := AG.mul (AN.of N14 (L := 1000) (by omega) (by omega)) (by omega)
    obtain ⟨q16, ⟨K16, e16⟩, N16⟩ := Gcd_two (L := 2000) (by omega) (AN.of N12 (L := 2000) (by omega) (by omega)) (AN.of N13 (L := 2000) (by omega) (by omega))
    rw [Int.natAbs_mul, Int.natAbs_mul, Nat.gcd_mul_right, hg, Int.natCast_mul] at N16
    obtain ⟨rfl, rfl⟩ := N15.uniq (by decide) N16
    obtain ⟨K17, e17⟩ := Same_ev false q16 (by omega)
    obtain ⟨k, hk⟩ : ∃ k, k = K0 + K1 + K2 + K3 + K4 + K5 + K6 + K7 + K8 + K9 + K10 + K11 + K12 + K13 + K14 + K15 + K16 + K17 := ⟨_, rfl⟩
    refine ⟨k, ?_⟩
    have g0 : tribunallaw02_awake.f k = _ := e0 k (by omega)
    have g1 : whole_Extended.f k s l t p = _ := e1 k (by omega)
    have g2 : whole_Mul.f k s l z2 X' = _ := e2 k (by omega)
    have g3 : whole_Mul.f k t p z3 Y' = _ := e3 k (by omega)
    have g4 : whole_Add.f k u2 q2 u3 q3 = _ := e4 k (by omega)
    have g5 : whole_Gcd.f k [⟨s, l⟩, ⟨t, p⟩] = _ := e5 k (by omega)
    have g6 : tribunalref02_Same.f k false q5 false q5 = _ := e6 k (by omega)
    have g7 : whole_Sign.f k false q5 = _ := e7 k (by omega)
    have g8 : whole_Quo.f k s l false q5 = _ := e8 k (by omega)
    have g9 : whole_Quo.f k t p false q5 = _ := e9 k (by omega)
    have g10 : whole_Sign.f k v8 r8 = _ := e10 k (by omega)
    have g11 : whole_Sign.f k v9 r9 = _ := e11 k (by omega)
    have g12 : whole_Mul.f k s l v q = _ := e12 k (by omega)
    have g13 : whole_Mul.f k t p v q = _ := e13 k (by omega)
    have g14 : whole_Abs.f k v q = _ := e14 k (by omega)
    have g15 : whole_Mul.f k false q5 false q14 = _ := e15 k (by omega)
    have g16 : whole_Gcd.f k [⟨u12, q12⟩, ⟨u13, q13⟩] = _ := e16 k (by omega)
    have g17 : tribunalref02_Same.f k false q16 false q16 = _ := e17 k (by omega)
    have sgz : ¬ sg (g : Int) = 0 := by rw [sg_pos (by omega)]; decide
    rw [tribunallaw02_WholeBezout.f, g0, Option.bind_some, if_pos rfl, sh s l c1, Option.bind_some, if_pos rfl, sh t p c2, Option.bind_some, if_pos rfl, sh v q c3, Option.bind_some, if_pos rfl]
    rw [g1, Option.bind_some, g2, Option.bind_some, g3, Option.bind_some, g4, Option.bind_some, g5, Option.bind_some, if_pos rfl, if_pos rfl, if_pos rfl, if_pos rfl, if_pos rfl, g6, Option.bind_some, if_pos rfl, Option.bind_some, if_pos rfl, g7, Option.bind_some, if_neg ng, Option.bind_some, if_neg sgz]
    rw [g8, Option.bind_some, g9, Option.bind_some, if_pos rfl, if_pos rfl, g10, Option.bind_some, if_pos (sg_zero rfl), g11, Option.bind_some, if_pos (sg_zero rfl)]
    rw [g12, Option.bind_some, g13, Option.bind_some, g14, Option.bind_some, g15, Option.bind_some, g16, Option.bind_some, if_pos rfl, if_pos rfl, if_pos rfl, if_pos rfl, g17, Option.bind_some]
end Go.Proofs.YtodhkpdcpneeeaaDoor.PurePDv
namespace Go.Proofs.YtodhkpdcpneeeaaDoor.Pure
open Go.RowKit Go.Proofs.YtodhkpdcpneeeaaDoorW.PrintWords Go.Proofs.YtodhkpdcpneeeaaDoorW.PrintLast Go.Proofs.YtodhkpdcpneeeaaDoorW.PrintMore Go.Proofs.YtodhkpdcpneeeaaDoor.PDv Go.Proofs.YtodhkpdcpneeeaaDoor Go.Proofs.YtodhkpdcpneeeaaDoor.Mine Big PurePDv
theorem wholeBezout_pure (a : Bool) (x : List Int) (hx : x.length ≤ 1048576) (wx : ∀ z ∈ x, (Lit.int .u64 z).wf = true) (b : Bool) (y : List Int) (hy : y.length ≤ 1048576) (wy : ∀ z ∈ y, (Lit.int .u64 z).wf = true) (c : Bool) (z : List Int) (hz : z.length ≤ 1048576) (wz : ∀ v ∈ z, (Lit.int .u64 v).wf = true) : ∃ k, PDv.tribunallaw02_WholeBezout.f k a x b y c z = some true := by
  obtain ⟨K1, e1⟩ := awake_ev
  have g1 : tribunallaw02_awake.f K1 = _ := e1 _ (Nat.le_refl _)
  have shn : ∀ (b : Bool) (x : List Int), ¬ x.length ≤ 1000 → tribunallaw02_short.f b x = some false := fun b x hx => by
    show some (decide ((x.length : Int) ≤ 1000)) = _
    rw [decide_eq_false (by omega)]
  have sh : ∀ (b : Bool) (x : List Int), x.length ≤ 1000 → tribunallaw02_short.f b x = some true := fun b x hx => by
    show some (decide ((x.length : Int) ≤ 1000)) = _
    rw [decide_eq_true (by omega)]
  by_cases c1 : x.length ≤ 1000
  · by_cases c2 : y.length ≤ 1000
    · by_cases c3 : z.length ≤ 1000
      · obtain ⟨n, s1, a1, d1, E1, _, N1, M1, l1, _⟩ := arg_num a x hx (dig_of_wf wx)
        obtain ⟨m, s2, a2, d2, E2, _, N2, M2, l2, _⟩ := arg_num b y hy (dig_of_wf wy)
        obtain ⟨n3, h3⟩ := AN.arg c z hz (dig_of_wf wz)
        exact bezout_main E1 ⟨N1, M1⟩ E2 ⟨N2, M2⟩ (by omega) (by omega) (h3.up c3) c1 c2 c3
      · exact ⟨K1, by rw [tribunallaw02_WholeBezout.f, g1, Option.bind_some, if_pos rfl, sh a x c1, Option.bind_some, if_pos rfl, sh b y c2, Option.bind_some, if_pos rfl, shn c z c3, Option.bind_some, if_neg (by decide)]⟩
    · exact ⟨K1, by rw [tribunallaw02_WholeBezout.f, g1, Option.bind_some, if_pos rfl, sh a x c1, Option.bind_some, if_pos rfl, shn b y c2, Option.bind_some, if_neg (by decide)]⟩
  · exact ⟨K1, by rw [tribunallaw02_WholeBezout.f, g1, Option.bind_some, if_pos rfl, shn a x c1, Option.bind_some, if_neg (by decide)]⟩
end Go.Proofs.YtodhkpdcpneeeaaDoor.Pure
