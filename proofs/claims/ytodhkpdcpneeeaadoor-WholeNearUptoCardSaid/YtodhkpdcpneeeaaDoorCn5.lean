/- What the card rests on, part 5: words of the walk, the functions in Lean and that the code comes to them. No condition beyond those that each theorem names. -/
import Derived.Test.YtodhkpdcpneeeaaDoorCn4
set_option maxHeartbeats 8000000
set_option maxRecDepth 100000
namespace Go.Proofs.YtodhkpdcpneeeaaDoor.PurePDv
set_option linter.unusedVariables false
set_option linter.unusedSimpArgs false
open Go.RowKit Go.Proofs.YtodhkpdcpneeeaaDoorW.PrintWords Go.Proofs.YtodhkpdcpneeeaaDoorW.PrintLast Go.Proofs.YtodhkpdcpneeeaaDoorW.PrintMore Go.Proofs.YtodhkpdcpneeeaaDoor.PDv Go.Proofs.YtodhkpdcpneeeaaDoor Go.Proofs.YtodhkpdcpneeeaaDoor.Mine Big
theorem down_or {s P Q : Int} (h : Sh s P Q) {o x : Int} (hx : 0 ≤ x ∧ x < 18446744073709551616) (ho : 0 ≤ o ∧ o < Q) : Go.bits .or .u64 o (x % P * Q) = o + x % P * Q := by
  obtain ⟨t, et, _⟩ := h.Q1
  obtain ⟨_, _, _, e4, e5, _⟩ := shl_parts h.Q0 h.P0 (by rw [Int.mul_comm]; exact h.PQ) hx
  have hQ := h.Q_le
  rw [(or_add t ⟨e4, e5⟩ ⟨x % P, by rw [et]⟩ (by rw [← et]; exact ho) (by omega)).2, Int.add_comm]
theorem down_out0 {s P Q : Int} (h : Sh s P Q) (h0 : ¬ s > 0) (x : Int) : x % P = 0 := by
  obtain ⟨t, et, es⟩ := h.P1
  have hs := h.s0
  have hP1 : P = 1 := by rw [et, ← es, show s = 0 from by omega]; rfl
  rw [hP1]; omega
def downSet (out : List Int) (i : Nat) (x P Q : Int) : List Int := if i = 0 then out.set 0 (x / P) else (out.set i (x / P)).set (i - 1) (out.getD (i - 1) 0 + x % P * Q)
theorem set_getD_same (l : List Int) (i : Nat) : l.set i (l.getD i 0) = l := by
  refine List.ext_getElem (by simp) fun j h1 h2 => ?_
  by_cases hj : i = j
  · subst hj
    rw [List.getElem_set_self, List.getD_eq_getElem?_getD, List.getElem?_eq_getElem h2, Option.getD_some]
  · rw [List.getElem_set_ne hj]
theorem down_step (k : Nat) {s P Q : Int} (h : Sh s P Q) (a out : List Int) (i : Nat) (hi : i < a.length) (hl : a.length ≤ 8388608) (ho : out.length = a.length) (da : Dig 18446744073709551616 a) (hz : out.getD i 0 = 0) (hw : 0 < i → 0 ≤ out.getD (i - 1) 0 ∧ out.getD (i - 1) 0 < Q) :
    whole_amount_down.l0 (k + 1) s out a (a.length : Int) (i : Int) = whole_amount_down.l0 k s (downSet out i (a.getD i 0) P Q) a (a.length : Int) ((i + 1 : Nat) : Int) := by
  have ga := getD_dig (by decide) da i
  have hwr := step_wrap i a.length hi hl
  have c1 : (i : Int) < (a.length : Int) := by omega
  have c2 : (0 : Int) ≤ (i : Int) := by omega
  have c3 : (i : Int) < (out.length : Int) := by omega
  have c4 := h.s0.1
  have c7 : (0 : Int) ≤ 64 - s := by have := h.s0; omega
  have hcount := h.count
  have hR := h.eqR (x := a.getD i 0)
  have hL := h.eqL' ga
  have hx : 0 ≤ a.getD i 0 / P ∧ a.getD i 0 / P < 18446744073709551616 := by
    have h1 := Int.ediv_nonneg ga.1 (Int.le_of_lt h.P0)
    have h2 := Int.ediv_le_self P ga.1
    exact ⟨h1, by omega⟩
  have hor0 := or_nil hx
  have ra := rd_getD a i
  have ro := rd_getD out i
  rw [hz] at ro
  by_cases hi0 : i = 0
  · subst hi0
    rw [whole_amount_down.l0, if_pos c1, if_pos c2, if_pos c1, if_pos c3, if_pos c4, Option.bind_some, ra, ro, hR, hor0, hwr, Int.toNat_natCast, if_neg (show ¬ ((0 : Nat) : Int) > 0 by decide), ite_self, downSet, if_pos rfl]
  · have hpr : wrap64 ((i : Int) - 1) = ((i - 1 : Nat) : Int) := by rw [w64 _ (by omega)]; omega
    have rp := rd_getD (out.set i (a.getD i 0 / P)) (i - 1)
    rw [getD_set_ne _ _ _ _ (by omega)] at rp
    have hor := down_or h ga (hw (by omega))
    have c5 : (0 : Int) ≤ ((i - 1 : Nat) : Int) := by omega
    have c6 : ((i - 1 : Nat) : Int) < (out.length : Int) := by omega
    have c8 : (i : Int) > 0 := by omega
    rw [whole_amount_down.l0, if_pos c1, if_pos c2, if_pos c1, if_pos c3, if_pos c4, Option.bind_some, ra, ro, hR, hor0, hwr, hpr, Int.toNat_natCast, Int.toNat_natCast, rp, downSet, if_neg hi0]
    by_cases h0 : s > 0
    · rw [if_pos h0, if_pos c8, if_pos c5, if_pos c6, hcount, if_pos c7, hL, hor]
    · rw [if_neg h0, down_out0 h h0, Int.zero_mul, Int.add_zero]
      have e := set_getD_same (out.set i (a.getD i 0 / P)) (i - 1)
      rw [getD_set_ne _ _ _ _ (by omega)] at e
      rw [e]
theorem down_val {P Q A x V : Int} (hP : 0 < P) (hPQ : P * Q = 18446744073709551616) (i : Nat) (hi : 0 < i) (hV : V = A / P) :
    V + (x / P) * 18446744073709551616 ^ i + (x % P * Q) * 18446744073709551616 ^ (i - 1) = (A + x * 18446744073709551616 ^ i) / P := by
  obtain ⟨j, rfl⟩ : ∃ j, i = j + 1 := ⟨i - 1, by omega⟩
  rw [Nat.add_sub_cancel, Int.pow_succ]
  generalize (18446744073709551616 : Int) ^ j = W
  rw [← hPQ, hV]
  have h1 := Int.mul_ediv_add_emod x P
  have e : A + x * (W * (P * Q)) = A + (x * W * Q) * P := by
    rw [Int.mul_comm P Q, ← Int.mul_assoc W, ← Int.mul_assoc x, ← Int.mul_assoc x W Q]
  rw [e, Int.add_mul_ediv_right _ _ (Int.ne_of_gt hP)]
  have e2 : x * W * Q = x / P * (W * (P * Q)) + x % P * Q * W := by
    have : x * W * Q = (P * (x / P) + x % P) * W * Q := by rw [h1]
    rw [this, Int.add_mul, Int.add_mul]
    congr 1
    · rw [Int.mul_comm P (x / P), Int.mul_assoc, Int.mul_assoc, ← Int.mul_assoc P W Q, Int.mul_comm P W, Int.mul_assoc]
    · rw [Int.mul_assoc, Int.mul_comm W Q, ← Int.mul_assoc]
  rw [e2]; omega
theorem down_l0 {s P Q : Int} (h : Sh s P Q) (a : List Int) (hl : a.length ≤ 8388608) (da : Dig 18446744073709551616 a) : ∀ (n i : Nat) (out : List Int), i + n = a.length → out.length = a.length → Dig 18446744073709551616 out → val 18446744073709551616 out = val 18446744073709551616 (a.take i) / P → (∀ t, i ≤ t → out.getD t 0 = 0) → (0 < i → out.getD (i - 1) 0 < Q) →
    ∃ r, Ev (fun k => whole_amount_down.l0 k s out a (a.length : Int) (i : Int)) r ∧ Rep 18446744073709551616 (val 18446744073709551616 a / P) r := by
  intro n
  induction n with
  | zero =>
    intro i out hi ho hd hv hz hw
    obtain ⟨r, ⟨K, hr⟩, h1, h2, h3⟩ := whole_trimmed_ev (B := 18446744073709551616) (l := out) (by omega) hd
    refine ⟨r, ⟨K + 1, fun k hk => ?_⟩, h1, h2, by rw [h3, hv, show i = a.length from by omega, List.take_length]⟩
    obtain ⟨k, rfl⟩ : ∃ j, k = j + 1 := ⟨k - 1, by omega⟩
    have hk' : whole_trimmed.f k out = some r := hr k (by omega)
    show whole_amount_down.l0 (k + 1) s out a (a.length : Int) (i : Int) = some r
    rw [whole_amount_down.l0, if_neg (by omega), hk', Option.bind_some]
  | succ n ih =>
    intro i out hi ho hd hv hz hw
    have hil : i < a.length := by omega
    have ga := getD_dig (by decide) da i
    have hzi := hz i (Nat.le_refl _)
    have hwi : 0 < i → 0 ≤ out.getD (i - 1) 0 ∧ out.getD (i - 1) 0 < Q := fun x => ⟨(getD_dig (by decide) hd (i - 1)).1, hw x⟩
    have hx1 := Int.ediv_nonneg ga.1 (Int.le_of_lt h.P0)
    have hx2 : a.getD i 0 / P < Q := Int.ediv_lt_of_lt_mul h.P0 (by rw [Int.mul_comm, h.PQ]; exact ga.2)
    have hQ := h.Q_le
    obtain ⟨_, _, _, e4, e5, _⟩ := shl_parts h.Q0 h.P0 (by rw [Int.mul_comm]; exact h.PQ) ga
    have hm1 : a.getD i 0 % P + 1 ≤ P := by have := Int.emod_lt_of_pos (a.getD i 0) h.P0; omega
    have hm2 := Int.mul_le_mul_of_nonneg_right hm1 (Int.le_of_lt h.Q0)
    rw [h.PQ, Int.add_mul, Int.one_mul] at hm2
    obtain ⟨r, ⟨K, hr⟩, hq⟩ := ih (i + 1) (downSet out i (a.getD i 0) P Q) (by omega) (by unfold downSet; split <;> simp [ho])
      (by unfold downSet; split
          · exact hd.set 0 ⟨hx1, by omega⟩
          · rename_i hi0
            have := hwi (by omega)
            exact (hd.set i ⟨hx1, by omega⟩).set (i - 1) ⟨by omega, by omega⟩)
      (by unfold downSet; split
          · rename_i hi0; subst hi0
            rw [val_set_getD _ _ _ _ (by omega), hzi, hv, val_take_getD]
            simp [val]
          · rename_i hi0
            rw [val_set_getD _ _ _ _ (by simp; omega), val_set_getD _ _ _ _ (by omega), getD_set_ne _ _ _ _ (by omega), hzi, val_take_getD, ← down_val h.P0 h.PQ i (by omega) hv, Int.sub_zero, show out.getD (i - 1) 0 + a.getD i 0 % P * Q - out.getD (i - 1) 0 = a.getD i 0 % P * Q from by omega])
      (by intro t ht
          unfold downSet; split
          · rw [getD_set_ne _ _ _ _ (by omega)]; exact hz t (by omega)
          · rw [getD_set_ne _ _ _ _ (by omega), getD_set_ne _ _ _ _ (by omega)]; exact hz t (by omega))
      (by intro _
          rw [Nat.add_sub_cancel]
          unfold downSet; split
          · rename_i hi0; subst hi0
            rw [getD_set_eq _ _ _ (by omega)]; exact hx2
          · rw [getD_set_ne _ _ _ _ (by omega), getD_set_eq _ _ _ (by omega)]; exact hx2)
    refine ⟨r, ⟨K + 1, fun k hk => ?_⟩, hq⟩
    obtain ⟨k, rfl⟩ : ∃ j, k = j + 1 := ⟨k - 1, by omega⟩
    show whole_amount_down.l0 (k + 1) s out a (a.length : Int) (i : Int) = some r
    rw [down_step k h a out i hil hl ho da hzi hwi]
    exact hr k (by omega)
theorem down_ev {s P Q : Int} (h : Sh s P Q) (a : List Int) (hl : a.length ≤ 8388608) (da : Dig 18446744073709551616 a) :
    ∃ r, Ev (fun k => whole_amount_down.f k a s) r ∧ Rep 18446744073709551616 (val 18446744073709551616 a / P) r := by
  have hz : ∀ t, (List.replicate a.length (0 : Int)).getD t 0 = 0 := fun t => by
    simp [List.getD_eq_getElem?_getD, List.getElem?_replicate]; split <;> rfl
  obtain ⟨r, ⟨K, hr⟩, hq⟩ := down_l0 h a hl da a.length 0 (List.replicate a.length 0) (by omega) (by simp) (Dig.rep (by decide) _) (by rw [val_replicate]; simp [val]) (fun t _ => hz t) (fun x => absurd x (by decide))
  refine ⟨r, ⟨K, fun k hk => ?_⟩, hq⟩
  show whole_amount_down.f k a s = some r
  rw [whole_amount_down.f, if_pos (by omega), Int.toNat_natCast, if_pos (by omega)]
  exact hr k hk
theorem normal {b v : List Int} {n : Nat} {P : Int} (hn : b.length = n) (hn2 : 2 ≤ n) (hv : v.length = n + 1) (db : Dig 18446744073709551616 b) (dv : Dig 18446744073709551616 v) (hP : 0 < P) (hdvd : ∃ Q, P * Q = 18446744073709551616) (h1 : 9223372036854775808 ≤ b.getD (n - 1) 0 * P) (h2 : b.getD (n - 1) 0 * P < 18446744073709551616) (hval : val 18446744073709551616 v = val 18446744073709551616 b * P) :
    val 18446744073709551616 (v.take n) = val 18446744073709551616 b * P ∧ 9223372036854775808 ≤ (v.take n).getD (n - 1) 0 ∧ 18446744073709551616 ^ (n - 1) * P ≤ val 18446744073709551616 b * P := by
  obtain ⟨m, rfl⟩ : ∃ m, n = m + 1 := ⟨n - 1, by omega⟩
  rw [Nat.add_sub_cancel] at *
  have eb : val 18446744073709551616 b = val 18446744073709551616 (b.take m) + b.getD m 0 * 18446744073709551616 ^ m := by
    have := val_take_getD 18446744073709551616 b m
    rw [List.take_of_length_le (show b.length ≤ m + 1 by omega)] at this
    exact this
  have b0 := val_nonneg (B := 18446744073709551616) (by decide) (db.take m)
  have b1 := val_lt (B := 18446744073709551616) (by decide) (db.take m)
  rw [List.length_take, Nat.min_eq_left (by omega)] at b1
  have hW := pow_pos (B := 18446744073709551616) (by decide) m
  obtain ⟨Q, hQ⟩ := hdvd
  have htop : (b.getD m 0 + 1) * P ≤ 18446744073709551616 := by
    refine Classical.byContradiction fun hx => ?_
    have h3 : b.getD m 0 * P < Q * P := by rw [Int.mul_comm Q P, hQ]; exact h2
    have h4 : b.getD m 0 < Q := Int.lt_of_mul_lt_mul_right h3 (Int.le_of_lt hP)
    have h5 := Int.mul_le_mul_of_nonneg_right (show b.getD m 0 + 1 ≤ Q by omega) (Int.le_of_lt hP)
    rw [Int.mul_comm Q P, hQ] at h5
    omega
  have hb1 : 1 ≤ b.getD m 0 := by
    refine Classical.byContradiction fun hx => ?_
    have := Int.mul_le_mul_of_nonneg_right (show b.getD m 0 ≤ 0 by omega) (Int.le_of_lt hP)
    omega
  generalize b.getD m 0 = t at *
  have hlow : 18446744073709551616 ^ m ≤ val 18446744073709551616 b := by
    have := Int.mul_le_mul_of_nonneg_right hb1 (Int.le_of_lt hW)
    omega
  have hup : val 18446744073709551616 b * P < 18446744073709551616 ^ (m + 1) := by
    have h3 : val 18446744073709551616 b < (t + 1) * 18446744073709551616 ^ m := by rw [Int.add_mul, Int.one_mul]; omega
    have h4 := Int.mul_lt_mul_of_pos_right h3 hP
    have h5 := Int.mul_le_mul_of_nonneg_right htop (Int.le_of_lt hW)
    have e : (t + 1) * 18446744073709551616 ^ m * P = (t + 1) * P * 18446744073709551616 ^ m := by
      rw [Int.mul_assoc, Int.mul_comm (18446744073709551616 ^ m) P, ← Int.mul_assoc]
    rw [Int.pow_succ, Int.mul_comm (18446744073709551616 ^ m)]
    omega
  have hvt := val_take_of_lt (n := m + 1) dv (by rw [hval]; exact hup)
  refine ⟨hvt.1.trans hval, ?_, Int.mul_le_mul_of_nonneg_right hlow (Int.le_of_lt hP)⟩
  have dvt := dv.take (m + 1)
  have ev : val 18446744073709551616 (v.take (m + 1)) = val 18446744073709551616 ((v.take (m + 1)).take m) + (v.take (m + 1)).getD m 0 * 18446744073709551616 ^ m := by
    have := val_take_getD 18446744073709551616 (v.take (m + 1)) m
    rw [List.take_of_length_le (show (v.take (m + 1)).length ≤ m + 1 by simp; omega)] at this
    exact this
  have v1 := val_lt (B := 18446744073709551616) (by decide) (dvt.take m)
  rw [List.length_take, Nat.min_eq_left (by simp; omega)] at v1
  rw [hvt.1, hval] at ev
  generalize (v.take (m + 1)).getD m 0 = x at *
  refine Classical.byContradiction fun hx => ?_
  have h6 := Int.mul_le_mul_of_nonneg_right (show x + 1 ≤ 9223372036854775808 by omega) (Int.le_of_lt hW)
  rw [Int.add_mul, Int.one_mul] at h6
  have h7 : t * 18446744073709551616 ^ m ≤ val 18446744073709551616 b := by omega
  have h8 := Int.mul_le_mul_of_nonneg_right h7 (Int.le_of_lt hP)
  have h9 := Int.mul_le_mul_of_nonneg_right h1 (Int.le_of_lt hW)
  have e : t * 18446744073709551616 ^ m * P = t * P * 18446744073709551616 ^ m := by
    rw [Int.mul_assoc, Int.mul_comm (18446744073709551616 ^ m) P, ← Int.mul_assoc]
  omega
theorem rep_word {v : Int} (h : 0 ≤ v ∧ v < 18446744073709551616) : ∃ r, Ev (fun k => whole_trimmed.f k [v]) r ∧ Rep 18446744073709551616 v r := by
  obtain ⟨r, hr, h1, h2, h3⟩ := whole_trimmed_ev (B := 18446744073709551616) (l := [v]) (by simp) (by rw [Dig.cons]; exact ⟨h, Dig.nil⟩)
  exact ⟨r, hr, h1, h2, by rw [h3]; simp [val]⟩
theorem quo_ev {A D : Int} {a b : List Int} (ha : Rep 18446744073709551616 A a) (hb : Rep 18446744073709551616 D b) (hD : 0 < D) (la : a.length ≤ 8388600) (lb : b.length ≤ 8388600) :
    ∃ q r, Ev (fun k => whole_amount_quo.f k a b) (q, r) ∧ Rep 18446744073709551616 (A / D) q ∧ Rep 18446744073709551616 (A % D) r := by
  have hA := ha.nonneg (by decide)
  obtain ⟨K1, h1⟩ := whole_amount_cmp_ev a b (by omega) (by omega) ha.dig hb.dig ha.top hb.top
  rw [ha.val, hb.val] at h1
  by_cases hc : A < D
  · refine ⟨[], a, ⟨K1, fun k hk => ?_⟩, ⟨Dig.nil, trivial, ?_⟩, ?_⟩
    · have e1 : whole_amount_cmp.f k a b = _ := h1 k hk
      show whole_amount_quo.f k a b = _
      rw [whole_amount_quo.f, e1, Option.bind_some, sg_neg (by omega), if_pos (by decide)]
    · rw [Int.ediv_eq_zero_of_lt hA hc]; rfl
    · rw [Int.emod_eq_of_lt hA hc]; exact ha
  · have hsg : ¬ sg (A - D) < 0 := by unfold sg; split <;> (try split) <;> omega
    have hbpos := (hb.pos_iff (by decide)).2 hD
    by_cases h1b : b.length = 1
    · obtain ⟨x, rfl⟩ := List.length_eq_one_iff.1 h1b
      have hx : x = D := by have := hb.val; simpa [val] using this
      have dx := hb.dig.get 0 (by simp)
      have dx' : 0 ≤ x ∧ x < 18446744073709551616 := dx
      obtain ⟨q, ⟨K2, h2⟩, hq⟩ := byLimb_ev a x (by omega) (by omega) ha.dig
      rw [ha.val, hx] at hq
      have hm0 := Int.emod_nonneg A (show x ≠ 0 by omega)
      have hm1 := Int.emod_lt_of_pos A (show 0 < x by omega)
      obtain ⟨r, ⟨K3, h3⟩, hr⟩ := rep_word (v := A % x) ⟨hm0, by omega⟩
      rw [hx] at hr
      refine ⟨q, r, ⟨K1 + K2 + K3, fun k hk => ?_⟩, hq, hr⟩
      have e1 : whole_amount_cmp.f k a [x] = _ := h1 k (by omega)
      have e2 : whole_amount_byLimb.f k a x = _ := h2 k (by omega)
      have e3 : whole_trimmed.f k [A % x] = _ := h3 k (by omega)
      rw [ha.val] at e2
      show whole_amount_quo.f k a [x] = _
      rw [whole_amount_quo.f, e1, Option.bind_some, if_neg hsg, if_pos (by rfl), show rd [x] 0 = x from rfl, e2, Option.bind_some, e3, Option.bind_some]
    · have hlen := len_of_le (by decide) ha.dig hb.dig hb.top (by rw [ha.val, hb.val]; omega)
      have hn2 : 2 ≤ b.length := by omega
      have gb := getD_dig (by decide) hb.dig (b.length - 1)
      have htop : b.getD (b.length - 1) 0 ≠ 0 := by
        have hne : b ≠ [] := by intro e; rw [e] at hn2; simp at hn2
        have := (Top_iff b).1 hb.top hne
        rw [List.getLast_eq_getElem] at this
        rw [List.getD_eq_getElem?_getD, List.getElem?_eq_getElem (by omega), Option.getD_some]
        exact this
      obtain ⟨s, P, Q, hs, hSh, hp1, hp2⟩ := clz (x := b.getD (b.length - 1) 0) (by omega)
      have hP0 := hSh.P0
      obtain ⟨v, ⟨K2, h2⟩, hvl, dv, hvv⟩ := up_ev hSh b lb hb.dig
      obtain ⟨u, ⟨K3, h3⟩, hul, du, huv⟩ := up_ev hSh a la ha.dig
      obtain ⟨n1, n2, n3⟩ := normal rfl hn2 hvl hb.dig dv hP0 ⟨Q, hSh.PQ⟩ hp1 hp2 hvv
      rw [hb.val] at n1 n3
      rw [ha.val] at huv
      have hvtl : (v.take b.length).length = b.length := by rw [List.length_take]; omega
      have hAl := ha.lt (by decide)
      have htopu : val 18446744073709551616 (u.drop (a.length - b.length + 1)) < val 18446744073709551616 (v.take b.length) := by
        rw [n1]
        have e := val_split 18446744073709551616 u (a.length - b.length + 1) (by omega)
        have t0 := val_nonneg (B := 18446744073709551616) (by decide) (du.take (a.length - b.length + 1))
        have hW := pow_pos (B := 18446744073709551616) (by decide) (a.length - b.length + 1)
        refine Classical.byContradiction fun hx => ?_
        have h5 := Int.mul_le_mul_of_nonneg_left (show 18446744073709551616 ^ (b.length - 1) * P ≤ val 18446744073709551616 (u.drop (a.length - b.length + 1)) by omega) (Int.le_of_lt hW)
        rw [← Int.mul_assoc, ← Int.pow_add, show a.length - b.length + 1 + (b.length - 1) = a.length from by omega] at h5
        have h6 := Int.mul_lt_mul_of_pos_right hAl hP0
        omega
      have hq0 : ∀ t, (List.replicate (a.length - b.length + 1) (0 : Int)).getD t 0 = 0 := fun t => by
        simp [List.getD_eq_getElem?_getD, List.getElem?_replicate]; split <;> rfl
      obtain ⟨u2, q2, ⟨K4, h4⟩, w1, w2, w3, w4, w5, w6⟩ := go_run (v.take b.length) b.length hvtl hn2 lb (dv.take _) n2 (a.length - b.length + 1) u (List.replicate (a.length - b.length + 1) 0) (by omega) du (by omega) htopu (Dig.rep (by decide) _) (by simp) (fun t _ => hq0 t)
      rw [val_replicate, Int.zero_mul, Int.add_zero, huv, n1] at w6
      rw [n1] at w5
      have hu0 := val_nonneg (B := 18446744073709551616) (by decide) w2
      obtain ⟨d1, d2⟩ := scale_div (X := A) (a := D) (P := P) (G := val 18446744073709551616 q2) (r := val 18446744073709551616 u2) hP0 hD (by omega) hu0 w5
      obtain ⟨q, ⟨K5, h5⟩, q1, q3, q4⟩ := whole_trimmed_ev (B := 18446744073709551616) (l := q2) (by rw [w4]; simp; omega) w3
      have hvlt := val_lt (B := 18446744073709551616) (by decide) (dv.take b.length)
      rw [hvtl, n1] at hvlt
      have hut := val_take_of_lt (n := b.length) w2 (by omega)
      obtain ⟨r0, ⟨K6, h6⟩, r1, r3, r4⟩ := whole_trimmed_ev (B := 18446744073709551616) (l := u2.take b.length) (by rw [List.length_take]; omega) (w2.take _)
      have hr0l : r0.length ≤ 8388608 := by
        have := rep_len (by decide) (Rep.mk r1 r3 (r4.trans hut.1)) (m := b.length) (by omega)
        omega
      obtain ⟨r, ⟨K7, h7⟩, hr⟩ := down_ev hSh r0 hr0l r1
      rw [r4, hut.1, ← d2] at hr
      refine ⟨q, r, ⟨K1 + K2 + K3 + K4 + K5 + K6 + K7, fun k hk => ?_⟩, ⟨q1, q3, by rw [q4, d1]⟩, hr⟩
      have e1 : whole_amount_cmp.f k a b = _ := h1 k (by omega)
      have e2 : whole_amount_up.f k b s = _ := h2 k (by omega)
      have e3 : whole_amount_up.f k a s = _ := h3 k (by omega)
      have e4 : quo_go k u (v.take b.length) (List.replicate (a.length - b.length + 1) 0) (((a.length - b.length + 1 : Nat) : Int) - 1) = _ := h4 k (by omega)
      have e5 : whole_trimmed.f k q2 = _ := h5 k (by omega)
      have e6 : whole_trimmed.f k (u2.take b.length) = _ := h6 k (by omega)
      have e7 : whole_amount_down.f k r0 s = _ := h7 k (by omega)
      have hs0 := hSh.s0
      have i1 : (a.length : Int) - (b.length : Int) = ((a.length - b.length + 1 : Nat) : Int) - 1 := by omega
      have i2 : (b.length : Int) - 1 = ((b.length - 1 : Nat) : Int) := by omega
      show whole_amount_quo.f k a b = _
      rw [whole_amount_quo.f, e1, Option.bind_some, if_neg hsg, if_neg h1b, if_pos (by omega), i2, rd_getD, hs, Option.bind_some, if_pos (by omega), e2, Option.bind_some, e3, Option.bind_some, if_pos (by omega), i1, e4, Option.bind_some, e5, Option.bind_some, e6, Option.bind_some, e7, Option.bind_some]
def qn (n m : Int) : Int := if (decide (n < 0) != decide (m < 0)) = true then -((n.natAbs : Int) / (m.natAbs : Int)) else (n.natAbs : Int) / (m.natAbs : Int)
def rn (n m : Int) : Int := if decide (n < 0) = true then -((n.natAbs : Int) % (m.natAbs : Int)) else (n.natAbs : Int) % (m.natAbs : Int)
theorem cut_num {n m : Int} {s t : Bool} {a b : List Int} (ha : Num 18446744073709551616 n s a) (hb : Num 18446744073709551616 m t b) (hm : m ≠ 0) (la : a.length ≤ 8388600) (lb : b.length ≤ 8388600) :
    ∃ u q v r, Ev (fun k => whole_number_cut.f k a s b t) (q, u, r, v) ∧ Num 18446744073709551616 (qn n m) u q ∧ Num 18446744073709551616 (rn n m) v r := by
  obtain ⟨q, r, ⟨K, hK⟩, hq, hr⟩ := quo_ev ha.rep hb.rep (by omega) la lb
  refine ⟨_, q, _, r, ⟨K, fun k hk => ?_⟩, Num.of_rep' (by decide) hq (s != t) (by rw [ha.sign, hb.sign]; rfl), Num.of_rep' (by decide) hr s (by rw [ha.sign]; rfl)⟩
  have e : whole_amount_quo.f k a b = _ := hK k hk
  show whole_number_cut.f k a s b t = _
  rw [whole_number_cut.f, e, Option.bind_some, signed_eq, Option.bind_some, signed_eq, Option.bind_some]
theorem long_eq (l : List Int) (s : Bool) : whole_number_long.f l s = some (decide ((l.length : Int) > 4096)) := rfl
theorem null_eq (l : List Int) : whole_amount_null.f l = some (decide (l = [])) := by
  rw [whole_amount_null.f]
  congr 1
  cases l <;> simp <;> omega
theorem num_nil {B n : Int} (hB : 0 < B) {s : Bool} {a : List Int} (h : Num B n s a) : a = [] ↔ n = 0 := by
  rw [h.rep.nil_iff hB]; omega
theorem one_num : whole_one.f = some ([1], false) ∧ Num 18446744073709551616 1 false [1] :=
  ⟨rfl, ⟨⟨by rw [Dig.cons]; exact ⟨by decide, Dig.nil⟩, by simp [Top], by simp [val]⟩, rfl⟩⟩
theorem qn_abs (n m : Int) : ((qn n m).natAbs : Int) = (n.natAbs : Int) / (m.natAbs : Int) := by
  have : 0 ≤ (n.natAbs : Int) / (m.natAbs : Int) := Int.ediv_nonneg (by omega) (by omega)
  unfold qn; split <;> omega
theorem rn_abs (n : Int) {m : Int} (hm : m ≠ 0) : ((rn n m).natAbs : Int) = (n.natAbs : Int) % (m.natAbs : Int) := by
  have : 0 ≤ (n.natAbs : Int) % (m.natAbs : Int) := Int.emod_nonneg _ (by omega)
  unfold rn; split <;> omega
theorem qn_le (n m : Int) : ((qn n m).natAbs : Int) ≤ n.natAbs := by
  rw [qn_abs]; exact Int.ediv_le_self _ (by omega)
theorem rn_lt (n : Int) {m : Int} (hm : m ≠ 0) : ((rn n m).natAbs : Int) < m.natAbs := by
  rw [rn_abs n hm]; exact Int.emod_lt_of_pos _ (by omega)
theorem len_small {B n k : Int} (hB : 0 < B) {s t : Bool} {a q : List Int} (ha : Num B n s a) (hq : Num B k t q) (h : (k.natAbs : Int) ≤ n.natAbs) : q.length ≤ a.length :=
  rep_len hB hq.rep (Int.lt_of_le_of_lt h (ha.rep.lt hB))
theorem inv_step (V c c' lo2 o X x y P R W B : Int) (hs : c' * B + lo2 = x * y + o + c) (hv : V + c * (P * R) = X + x * P * W) : (V + (lo2 - o) * (P * R)) + c' * (P * R * B) = X + x * P * (W + y * R) := by
  have e : c' * B = x * y + o + c - lo2 := by omega
  have : c' * (P * R * B) = (c' * B) * (P * R) := by grind
  rw [this, e]
  grind
theorem inv_exit (V c X x P R W : Int) (hv : V + c * (P * R) = X + x * P * W) : V + (c - 0) * (P * R) = X + x * P * W := by rw [Int.sub_zero]; exact hv
theorem l1_step (k : Nat) (b out a : List Int) (i j x c n1 n2 p hi lo t1 c1 lo2 c2 : Int) (h1 : j < n2) (h2 : 0 ≤ j) (h3 : j < (b.length : Int)) (h4 : bits_Mul64.f x (rd b j) = some (hi, lo)) (h5 : wrap64 (i + j) = p) (h6 : 0 ≤ p) (h7 : p < (out.length : Int)) (h8 : bits_Add64.f lo (rd out p) 0 = some (t1, c1)) (h9 : bits_Add64.f t1 c 0 = some (lo2, c2)) :
    whole_amount_times.l1 (k + 1) b out i x c a n1 i b n2 j = whole_amount_times.l1 k b (out.set p.toNat lo2) i x (IntKind.u64.wrap (IntKind.u64.wrap (hi + c1) + c2)) a n1 i b n2 (wrap64 (j + 1)) := by
  rw [whole_amount_times.l1, if_pos h1, if_pos h2, if_pos h3, h4, Option.bind_some, h5, if_pos h6, if_pos h7, h8, Option.bind_some, h9, Option.bind_some]
theorem times_in (a b : List Int) (ha : a.length ≤ 1048576) (hb : b.length ≤ 1048576) (da : Dig 18446744073709551616 a) (db : Dig 18446744073709551616 b) (i : Nat) (hi : i < a.length) (X : Int) (Q : List Int → Prop)
    (cont : ∀ out, out.length = a.length + b.length → Dig 18446744073709551616 out → val 18446744073709551616 out = X + a[i] * 18446744073709551616 ^ i * val 18446744073709551616 b → (∀ t, i + 1 + b.length ≤ t → out.getD t 0 = 0) → ∃ r, Ev (fun k => whole_amount_times.l0 k b out a (a.length : Int) ((i : Int) + 1)) r ∧ Q r) :
    ∀ (m j : Nat) (out : List Int) (c : Int), j + m = b.length → out.length = a.length + b.length → Dig 18446744073709551616 out → 0 ≤ c ∧ c < 18446744073709551616 → val 18446744073709551616 out + c * 18446744073709551616 ^ (i + j) = X + a[i] * 18446744073709551616 ^ i * val 18446744073709551616 (b.take j) → (∀ t, i + b.length ≤ t → out.getD t 0 = 0) →
    ∃ r, Ev (fun k => whole_amount_times.l1 k b out (i : Int) a[i] c a (a.length : Int) (i : Int) b (b.length : Int) (j : Int)) r ∧ Q r := by
  intro m
  induction m with
  | zero =>
    intro j out c hj ho hd hc hv hz
    have hj' : j = b.length := by omega
    subst hj'
    have h0 : out[i + b.length]'(by omega) = 0 := by
      have := hz (i + b.length) (by omega)
      rwa [List.getD_eq_getElem?_getD, List.getElem?_eq_getElem (by omega), Option.getD_some] at this
    obtain ⟨r, ⟨K, hr⟩, hq⟩ := cont (out.set (i + b.length) c) (by simpa using ho) (hd.set _ hc)
      (by
        rw [List.take_length, Int.pow_add] at hv
        rw [val_set _ _ _ _ (by omega), h0, Int.pow_add]
        exact inv_exit _ _ _ _ _ _ _ hv)
      (fun t ht => by rw [getD_set_ne _ _ _ _ (by omega)]; exact hz t (by omega))
    refine ⟨r, ⟨K + 1, fun k hk => ?_⟩, hq⟩
    obtain ⟨k, rfl⟩ : ∃ j, k = j + 1 := ⟨k - 1, by omega⟩
    simp only [whole_amount_times.l1]
    rw [if_neg (by omega), w64 _ (by omega), if_pos (by omega), if_pos (by omega), w64 _ (by omega)]
    have := hr k (by omega)
    rw [show i + b.length = ((i : Int) + (b.length : Int)).toNat from by omega] at this
    with_reducible exact this
  | succ m ih =>
    intro j out c hj ho hd hc hv hz
    have hx := da.get i hi
    have hy := db.get j (by omega)
    have hp : i + j < out.length := by omega
    have hoo := hd.get (i + j) hp
    obtain ⟨h1, lo, t1, c1, lo2, c2, c', hm, ha1, ha2, hw, hlo, hcc, hs⟩ := mstep a[i] b[j] out[i + j] c hx hy hoo hc
    obtain ⟨r, ⟨K, hr⟩, hq⟩ := ih (j + 1) (out.set (i + j) lo2) c' (by omega) (by simpa using ho) (hd.set _ hlo) hcc
      (by
        rw [Int.pow_add] at hv
        rw [val_set _ _ _ _ hp, val_take_succ _ b j (by omega), show i + (j + 1) = (i + j) + 1 from by omega, Int.pow_succ, Int.pow_add]
        exact inv_step _ _ _ _ _ _ _ _ _ _ _ _ hs hv)
      (fun t ht => by rw [getD_set_ne _ _ _ _ (by omega)]; exact hz t ht)
    refine ⟨r, ⟨K + 1, fun k hk => ?_⟩, hq⟩
    obtain ⟨k, rfl⟩ : ∃ j, k = j + 1 := ⟨k - 1, by omega⟩
    have := hr k (by omega)
    show whole_amount_times.l1 (k + 1) b out (i : Int) a[i] c a (a.length : Int) (i : Int) b (b.length : Int) (j : Int) = some r
    rw [l1_step k b out a i j a[i] c a.length b.length (i + j : Nat) h1 lo t1 c1 lo2 c2 (by omega) (by omega) (by omega) (by rw [rd_nat b j (by omega)]; exact hm) (by rw [w64 _ (by omega)]; omega) (by omega) (by omega) (by rw [rd_nat out (i + j) hp]; exact ha1) ha2, hw, w64 _ (by omega), Int.toNat_natCast]
    rw [show ((j + 1 : Nat) : Int) = (j : Int) + 1 from by omega] at this
    with_reducible exact this
theorem times_out (a b : List Int) (ha : a.length ≤ 1048576) (hb : b.length ≤ 1048576) (da : Dig 18446744073709551616 a) (db : Dig 18446744073709551616 b) : ∀ (n i : Nat) (out : List Int), i + n = a.length → out.length = a.length + b.length → Dig 18446744073709551616 out → val 18446744073709551616 out = val 18446744073709551616 (a.take i) * val 18446744073709551616 b → (∀ t, i + b.length ≤ t → out.getD t 0 = 0) →
    ∃ r, Ev (fun k => whole_amount_times.l0 k b out a (a.length : Int) (i : Int)) r ∧ (Dig 18446744073709551616 r ∧ Top r ∧ val 18446744073709551616 r = val 18446744073709551616 a * val 18446744073709551616 b) := by
  intro n
  induction n with
  | zero =>
    intro i out hi ho hd hv hz
    obtain ⟨r, ⟨K, hr⟩, h1, h2, h3⟩ := whole_trimmed_ev (B := 18446744073709551616) (l := out) (by omega) hd
    refine ⟨r, ⟨K + 1, fun k hk => ?_⟩, h1, h2, by rw [h3, hv, show i = a.length from by omega, List.take_length]⟩
    obtain ⟨k, rfl⟩ : ∃ j, k = j + 1 := ⟨k - 1, by omega⟩
    show whole_amount_times.l0 (k + 1) b out a (a.length : Int) (i : Int) = some r
    have hk' : whole_trimmed.f k out = some r := hr k (by omega)
    rw [whole_amount_times.l0, if_neg (by omega), hk', Option.bind_some]
  | succ n ih =>
    intro i out hi ho hd hv hz
    have hil : i < a.length := by omega
    obtain ⟨r, ⟨K, hr⟩, hq⟩ := times_in a b ha hb da db i hil (val 18446744073709551616 (a.take i) * val 18446744073709551616 b) _ (fun out' h1 h2 h3 h4 => by
        have := ih (i + 1) out' (by omega) h1 h2 (by rw [h3, val_take_succ _ a i hil, Int.add_mul]) h4
        rwa [show ((i + 1 : Nat) : Int) = (i : Int) + 1 from by omega] at this) b.length 0 out 0 (by omega) ho hd ⟨by omega, by omega⟩ (by rw [hv]; simp [val]) hz
    refine ⟨r, ⟨K + 1, fun k hk => ?_⟩, hq⟩
    obtain ⟨k, rfl⟩ : ∃ j, k = j + 1 := ⟨k - 1, by omega⟩
    show whole_amount_times.l0 (k + 1) b out a (a.length : Int) (i : Int) = some r
    have := hr k (by omega)
    rw [show ((0 : Nat) : Int) = 0 from rfl] at this
    rw [whole_amount_times.l0, if_pos (by omega), if_pos (by omega), if_pos (by omega), rd_nat a i hil]
    with_reducible exact this
theorem times_ev (a b : List Int) (ha : a.length ≤ 1048576) (hb : b.length ≤ 1048576) (da : Dig 18446744073709551616 a) (db : Dig 18446744073709551616 b) :
    ∃ r, Ev (fun k => whole_amount_times.f k a b) r ∧ Dig 18446744073709551616 r ∧ Top r ∧ val 18446744073709551616 r = val 18446744073709551616 a * val 18446744073709551616 b := by
  obtain ⟨r, ⟨K, hr⟩, hq⟩ := times_out a b ha hb da db a.length 0 (List.replicate (a.length + b.length) 0) (by omega) (by simp) (Dig.rep (by decide) _) (by rw [val_replicate]; simp [val]) (fun t _ => by simp [List.getD_eq_getElem?_getD, List.getElem?_replicate]; split <;> rfl)
  refine ⟨r, ⟨K, fun k hk => ?_⟩, hq⟩
  show whole_amount_times.f k a b = some r
  have hw : wrap64 ((a.length : Int) + (b.length : Int)) = ((a.length + b.length : Nat) : Int) := by rw [w64 _ (by omega)]; omega
  rw [whole_amount_times.f, hw, Int.toNat_natCast, if_pos (by omega), if_pos (by omega)]
  exact hr k hk
theorem times_num {n m : Int} {s t : Bool} {a b : List Int} (ha : Num 18446744073709551616 n s a) (hb : Num 18446744073709551616 m t b) (la : a.length ≤ 1048576) (lb : b.length ≤ 1048576) :
    ∃ u r, Ev (fun k => whole_number_times.f k a s b t) (r, u) ∧ Num 18446744073709551616 (n * m) u r := by
  obtain ⟨r, ⟨K, hr⟩, h1, h2, h3⟩ := times_ev a b la lb ha.rep.dig hb.rep.dig
  rw [ha.rep.val, hb.rep.val] at h3
  have N := Num.of_rep' (by decide) (Rep.mk h1 h2 h3) (s != t) (n := n * m) (by rw [ha.sign, hb.sign]; exact mul_signs n m)
  refine ⟨_, r, ⟨K, fun k hk => ?_⟩, N⟩
  have hk' : whole_amount_times.f k a b = some r := hr k hk
  show whole_number_times.f k a s b t = _
  rw [whole_number_times.f, hk', Option.bind_some, signed_eq, Option.bind_some]
end Go.Proofs.YtodhkpdcpneeeaaDoor.PurePDv
namespace Go.Proofs.YtodhkpdcpneeeaaDoor.PurePDv
set_option linter.unusedVariables false
set_option linter.unusedSimpArgs false
open Go.RowKit Go.Proofs.YtodhkpdcpneeeaaDoorW.PrintWords Go.Proofs.YtodhkpdcpneeeaaDoorW.PrintLast Go.Proofs.YtodhkpdcpneeeaaDoorW.PrintMore Go.Proofs.YtodhkpdcpneeeaaDoor.PDv Go.Proofs.YtodhkpdcpneeeaaDoor Go.Proofs.YtodhkpdcpneeeaaDoor.Mine Big
def AN (L : Nat) (n : Int) (s : Bool) (l : List Int) : Prop := ∃ a s1, Ev (fun k => whole_of.f k s l) (a, s1) ∧ Num 18446744073709551616 n s1 a ∧ a.length ≤ L
theorem of_num' {n : Int} {s : Bool} {r : List Int} (h : Num 18446744073709551616 n s r) (hl : r.length ≤ 1048576) : Ev (fun k => whole_of.f k s r) (r, s) := by
  obtain ⟨q, hq, _, h1, h2, h3⟩ := of_ev s r hl h.rep.dig
  have e : q = r := h.rep.uniq (by decide) ⟨h1, h2, h3.trans h.rep.val⟩ |>.symm
  subst e
  have e1 := h.sign
  have e2 := h.rep.pos_iff (by decide)
  have es : (s && decide (0 < q.length)) = s := by
    cases s
    · rfl
    · have hn : n < 0 := of_decide_eq_true e1.symm
      have := e2.2 (by omega)
      simp [this]
  rw [es] at hq
  exact hq
theorem AN.of {L : Nat} {n : Int} {s : Bool} {r : List Int} (h : Num 18446744073709551616 n s r) (hl : r.length ≤ L) (hL : L ≤ 1048576) : AN L n s r := ⟨r, s, of_num' h (by omega), h, hl⟩
theorem AN.up {L L' : Nat} {n : Int} {s : Bool} {l : List Int} (h : AN L n s l) (hL : L ≤ L') : AN L' n s l := by
  obtain ⟨a, s1, h1, h2, h3⟩ := h
  exact ⟨a, s1, h1, h2, by omega⟩
theorem AN.arg (s : Bool) (l : List Int) (hl : l.length ≤ 1048576) (hd : Dig 18446744073709551616 l) : ∃ n, AN l.length n s l := by
  obtain ⟨n, t, r, d, h1, _, h2, _, h3, _⟩ := arg_num s l hl hd
  exact ⟨n, r, t, h1, h2, h3⟩
theorem told_ok (s : Bool) {l : List Int} (h : l.length ≤ 4096) : whole_number_told.f l s = some (s, l, 0) := by
  simp only [whole_number_told.f, whole_number_long.f, Option.bind_some]
  rw [if_neg (by simp; omega), whole_number_out.f, api_Nat_uint64.f, if_pos (by omega), Option.bind_some, Option.bind_some]
theorem out_ok (s : Bool) {l : List Int} (h : l.length ≤ 1048576) : whole_number_out.f l s = some (s, l) := by
  rw [whole_number_out.f, api_Nat_uint64.f, if_pos (by omega), Option.bind_some]
section
variable {L L' : Nat} {n m : Int} {s t : Bool} {l p : List Int}
theorem AN.add (h : AN L n s l) (g : AN L' m t p) (hL : L ≤ 4000) (hL' : L' ≤ 4000) : ∃ u q, Ev (fun k => whole_Add.f k s l t p) (u, q, 0) ∧ Num 18446744073709551616 (n + m) u q ∧ q.length ≤ max L L' + 1 := by
  obtain ⟨a, s1, ⟨K1, e1⟩, N1, l1⟩ := h
  obtain ⟨b, s2, ⟨K2, e2⟩, N2, l2⟩ := g
  obtain ⟨u, r, ⟨K3, e3⟩, N3⟩ := plus_num N1 N2 (by omega) (by omega)
  have hr := num_len (by decide) N1 N2 N3 (by omega) (L := max L L') (by omega) (by omega)
  refine ⟨u, r, ⟨K1 + K2 + K3, fun k hk => ?_⟩, N3, hr⟩
  have g1 : whole_of.f k s l = _ := e1 k (by omega)
  have g2 : whole_of.f k t p = _ := e2 k (by omega)
  have g3 : whole_number_plus.f k a s1 b s2 = _ := e3 k (by omega)
  show whole_Add.f k s l t p = _
  rw [whole_Add.f, g1, Option.bind_some, g2, Option.bind_some, g3, Option.bind_some, told_ok u (show r.length ≤ 4096 by omega), Option.bind_some]
theorem AN.sub (h : AN L n s l) (g : AN L' m t p) (hL : L ≤ 4000) (hL' : L' ≤ 4000) : ∃ u q, Ev (fun k => whole_Sub.f k s l t p) (u, q, 0) ∧ Num 18446744073709551616 (n - m) u q ∧ q.length ≤ max L L' + 1 := by
  obtain ⟨a, s1, ⟨K1, e1⟩, N1, l1⟩ := h
  obtain ⟨b, s2, ⟨K2, e2⟩, N2, l2⟩ := g
  obtain ⟨u, r, ⟨K3, e3⟩, N3⟩ := minus_num N1 N2 (by omega) (by omega)
  have hr := num_len (by decide) N1 N2 N3 (by omega) (L := max L L') (by omega) (by omega)
  refine ⟨u, r, ⟨K1 + K2 + K3, fun k hk => ?_⟩, N3, hr⟩
  have g1 : whole_of.f k s l = _ := e1 k (by omega)
  have g2 : whole_of.f k t p = _ := e2 k (by omega)
  have g3 : whole_number_minus.f k a s1 b s2 = _ := e3 k (by omega)
  show whole_Sub.f k s l t p = _
  rw [whole_Sub.f, g1, Option.bind_some, g2, Option.bind_some, g3, Option.bind_some, told_ok u (show r.length ≤ 4096 by omega), Option.bind_some]
theorem AN.mul (h : AN L n s l) (g : AN L' m t p) (hL : L + L' ≤ 4096) : ∃ u q, Ev (fun k => whole_Mul.f k s l t p) (u, q, 0) ∧ Num 18446744073709551616 (n * m) u q ∧ q.length ≤ L + L' := by
  obtain ⟨a, s1, ⟨K1, e1⟩, N1, l1⟩ := h
  obtain ⟨b, s2, ⟨K2, e2⟩, N2, l2⟩ := g
  obtain ⟨u, r, ⟨K3, e3⟩, N3⟩ := times_num N1 N2 (by omega) (by omega)
  have hr : r.length ≤ a.length + b.length := by
    refine rep_len (by decide) N3.rep ?_
    rw [Int.natAbs_mul, Int.pow_add]
    have g2 := N1.rep.lt (by decide)
    have g3 := N2.rep.lt (by decide)
    have p1 := pow_pos (B := 18446744073709551616) (by decide) a.length
    have h1 := Int.mul_le_mul_of_nonneg_left (show (m.natAbs : Int) ≤ 18446744073709551616 ^ b.length by omega) (show (0 : Int) ≤ (n.natAbs : Int) by omega)
    have h2 := Int.mul_lt_mul_of_pos_right g2 (pow_pos (B := 18446744073709551616) (by decide) b.length)
    have e : ((n.natAbs * m.natAbs : Nat) : Int) = (n.natAbs : Int) * (m.natAbs : Int) := Int.natCast_mul _ _
    omega
  refine ⟨u, r, ⟨K1 + K2 + K3, fun k hk => ?_⟩, N3, by omega⟩
  have g1 : whole_of.f k s l = _ := e1 k (by omega)
  have g2 : whole_of.f k t p = _ := e2 k (by omega)
  have g3 : whole_number_times.f k a s1 b s2 = _ := e3 k (by omega)
  show whole_Mul.f k s l t p = _
  rw [whole_Mul.f, g1, Option.bind_some, g2, Option.bind_some, g3, Option.bind_some, told_ok u (show r.length ≤ 4096 by omega), Option.bind_some]
theorem AN.cmp (h : AN L n s l) (g : AN L' m t p) (hL : L ≤ 1048576) (hL' : L' ≤ 1048576) : Ev (fun k => whole_Cmp.f k s l t p) (sg (n - m)) := by
  obtain ⟨a, s1, ⟨K1, e1⟩, N1, l1⟩ := h
  obtain ⟨b, s2, ⟨K2, e2⟩, N2, l2⟩ := g
  obtain ⟨K3, e3⟩ := cmp_num N1 N2 (by omega) (by omega)
  refine ⟨K1 + K2 + K3, fun k hk => ?_⟩
  have g1 : whole_of.f k s l = _ := e1 k (by omega)
  have g2 : whole_of.f k t p = _ := e2 k (by omega)
  have g3 : whole_number_cmp.f k a s1 b s2 = _ := e3 k (by omega)
  show whole_Cmp.f k s l t p = _
  rw [whole_Cmp.f, g1, Option.bind_some, g2, Option.bind_some, g3, Option.bind_some]
theorem nil_num' (B : Int) : Num B 0 false [] := ⟨⟨Dig.nil, trivial, rfl⟩, rfl⟩
theorem AN.sign (h : AN L n s l) (hL : L ≤ 1048576) : Ev (fun k => whole_Sign.f k s l) (sg n) := by
  obtain ⟨a, s1, ⟨K1, e1⟩, N1, l1⟩ := h
  obtain ⟨K3, e3⟩ := cmp_num N1 (nil_num' _) (by omega) (by simp)
  refine ⟨K1 + K3, fun k hk => ?_⟩
  have g1 : whole_of.f k s l = _ := e1 k (by omega)
  have g3 : whole_number_cmp.f k a s1 [] false = _ := e3 k (by omega)
  show whole_Sign.f k s l = _
  rw [whole_Sign.f, g1, Option.bind_some, g3, Option.bind_some, Int.sub_zero]
theorem AN.abs (h : AN L n s l) (hL : L ≤ 1048576) : ∃ q, Ev (fun k => whole_Abs.f k s l) (false, q) ∧ Num 18446744073709551616 (n.natAbs : Int) false q ∧ q.length ≤ L := by
  obtain ⟨a, s1, ⟨K1, e1⟩, N1, l1⟩ := h
  have N := Num.of_rep' (by decide) N1.rep false (n := (n.natAbs : Int)) (by rw [if_neg (by decide)])
  rw [Bool.false_and] at N
  refine ⟨a, ⟨K1, fun k hk => ?_⟩, N, l1⟩
  have g1 : whole_of.f k s l = _ := e1 k (by omega)
  show whole_Abs.f k s l = _
  rw [whole_Abs.f, g1, Option.bind_some, signed_eq, Option.bind_some, Bool.false_and, out_ok _ (show a.length ≤ 1048576 by omega), Option.bind_some]
theorem pair_ok (u v : Bool) {q r : List Int} (hq : q.length ≤ 4096) (hr : r.length ≤ 4096) : Ev (fun k => whole_pair.f k q u r v) (u, q, v, r, 0) := by
  refine ⟨1, fun k hk => ?_⟩
  obtain ⟨k, rfl⟩ : ∃ j, k = j + 1 := ⟨k - 1, by omega⟩
  show whole_pair.f (k + 1) q u r v = _
  rw [whole_pair.f, long_eq, Option.bind_some, if_neg (by simp; omega), long_eq, Option.bind_some, whole_pair.j0, if_neg (by simp; omega), out_ok _ (show q.length ≤ 1048576 by omega), Option.bind_some, out_ok _ (show r.length ≤ 1048576 by omega), Option.bind_some]
theorem AN.quo (h : AN L n s l) (g : AN L' m t p) (hm : m ≠ 0) (hL : L ≤ 4000) (hL' : L' ≤ 4000) : ∃ u q v r, Ev (fun k => whole_Quo.f k s l t p) (u, q, v, r, 0) ∧ Num 18446744073709551616 (qn n m) u q ∧ Num 18446744073709551616 (rn n m) v r ∧ q.length ≤ L ∧ r.length ≤ L' := by
  obtain ⟨a, s1, ⟨K1, e1⟩, N1, l1⟩ := h
  obtain ⟨b, s2, ⟨K2, e2⟩, N2, l2⟩ := g
  obtain ⟨u, q, v, r, ⟨K3, e3⟩, N3, N4⟩ := cut_num N1 N2 hm (by omega) (by omega)
  have hne : ¬ decide (b = []) = true := by simpa using fun h => hm ((num_nil (by decide) N2).1 h)
  have lq := len_small (by decide) N1 N3 (qn_le n m)
  have lr := len_small (by decide) N2 N4 (Int.le_of_lt (rn_lt n hm))
  obtain ⟨K4, e4⟩ := pair_ok u v (q := q) (r := r) (by omega) (by omega)
  refine ⟨u, q, v, r, ⟨K1 + K2 + K3 + K4, fun k hk => ?_⟩, N3, N4, by omega, by omega⟩
  have g1 : whole_of.f k s l = _ := e1 k (by omega)
  have g2 : whole_of.f k t p = _ := e2 k (by omega)
  have g3 : whole_number_cut.f k a s1 b s2 = _ := e3 k (by omega)
  have g4 : whole_pair.f k q u r v = _ := e4 k (by omega)
  show whole_Quo.f k s l t p = _
  rw [whole_Quo.f, g2, Option.bind_some, null_eq, Option.bind_some, if_neg hne, g1, Option.bind_some, g3, Option.bind_some, g4, Option.bind_some]
theorem AN.null (g : AN L' 0 t p) : ∃ K s2, ∀ k, K ≤ k → whole_of.f k t p = some ([], s2) := by
  obtain ⟨b, s2, ⟨K2, e2⟩, N2, l2⟩ := g
  obtain rfl := (num_nil (by decide) N2).2 rfl
  exact ⟨K2, s2, e2⟩
theorem AN.quo0 (g : AN L' 0 t p) : Ev (fun k => whole_Quo.f k s l t p) (false, [], false, [], 11) := by
  obtain ⟨K, s2, e⟩ := g.null
  refine ⟨K, fun k hk => ?_⟩
  show whole_Quo.f k s l t p = _
  rw [whole_Quo.f, e k hk, Option.bind_some, null_eq, Option.bind_some, if_pos (by simp)]
theorem AN.rounded0 (up : Bool) (g : AN L' 0 t p) : Ev (fun k => whole_rounded.f k s l t p up) (false, [], 11) := by
  obtain ⟨K, s2, e⟩ := g.null
  refine ⟨K, fun k hk => ?_⟩
  show whole_rounded.f k s l t p up = _
  rw [whole_rounded.f, e k hk, Option.bind_some, null_eq, Option.bind_some, if_pos (by simp)]
theorem AN.one : ∃ v q, Ev (fun k => whole_Of.f k 1) (v, q) ∧ Num 18446744073709551616 1 v q ∧ q.length ≤ 1 := by
  have e : whole_Of.f 5 1 = some (false, [1]) := by kernel_rfl
  exact ⟨false, [1], Ev.of (fun k => whole_Of.mono 1 k) (k := 5) e, one_num.2, by simp⟩
theorem AN.zero : ∃ v q, Ev (fun k => whole_Of.f k 0) (v, q) ∧ Num 18446744073709551616 0 v q ∧ q.length ≤ 1 := by
  have e : whole_Of.f 5 0 = some (false, []) := by kernel_rfl
  exact ⟨false, [], Ev.of (fun k => whole_Of.mono 0 k) (k := 5) e, nil_num' _, by simp⟩
end
theorem qr_eq (n : Int) {m : Int} (hm : m ≠ 0) : qn n m * m + rn n m = n := by
  have h1 := Int.mul_ediv_add_emod (n.natAbs : Int) (m.natAbs : Int)
  unfold qn rn
  generalize (n.natAbs : Int) / (m.natAbs : Int) = Q at *
  generalize (n.natAbs : Int) % (m.natAbs : Int) = R at *
  generalize hM : (m.natAbs : Int) = M at *
  generalize hA : (n.natAbs : Int) = A at *
  rcases Int.lt_or_le n 0 with h | h <;> rcases Int.lt_or_le m 0 with g | g
  · rw [decide_eq_true h, decide_eq_true g, if_neg (by decide), if_pos rfl, show n = -A from by omega, show m = -M from by omega, Int.mul_neg, Int.mul_comm Q M]; omega
  · rw [decide_eq_true h, decide_eq_false (Int.not_lt.2 g), if_pos (by decide), if_pos rfl, show n = -A from by omega, show m = M from by omega, Int.neg_mul, Int.mul_comm Q M]; omega
  · rw [decide_eq_false (Int.not_lt.2 h), decide_eq_true g, if_pos (by decide), if_neg (by decide), show n = A from by omega, show m = -M from by omega, Int.neg_mul_neg, Int.mul_comm Q M]; omega
  · rw [decide_eq_false (Int.not_lt.2 h), decide_eq_false (Int.not_lt.2 g), if_neg (by decide), if_neg (by decide), show n = A from by omega, show m = M from by omega, Int.mul_comm Q M]; omega
theorem rn_pos (n : Int) {m : Int} (hm : m ≠ 0) : (0 ≤ n → 0 ≤ rn n m) ∧ (n ≤ 0 → rn n m ≤ 0) := by
  have h2 : 0 ≤ (n.natAbs : Int) % (m.natAbs : Int) := Int.emod_nonneg _ (by omega)
  unfold rn
  constructor
  · intro h
    rw [decide_eq_false (by omega), if_neg (by decide)]; exact h2
  · intro h
    rcases Int.lt_or_le n 0 with g | g
    · rw [decide_eq_true g, if_pos rfl]; omega
    · obtain rfl : n = 0 := by omega
      simp
end Go.Proofs.YtodhkpdcpneeeaaDoor.PurePDv
namespace Go.Proofs.YtodhkpdcpneeeaaDoor.PurePDv
set_option linter.unusedVariables false
set_option linter.unusedSimpArgs false
open Go.RowKit Go.Proofs.YtodhkpdcpneeeaaDoorW.PrintWords Go.Proofs.YtodhkpdcpneeeaaDoorW.PrintLast Go.Proofs.YtodhkpdcpneeeaaDoorW.PrintMore Go.Proofs.YtodhkpdcpneeeaaDoor.PDv Go.Proofs.YtodhkpdcpneeeaaDoor Go.Proofs.YtodhkpdcpneeeaaDoor.Mine Big
theorem told_eq (s : Bool) (l : List Int) : whole_number_told.f l s = some (if l.length > 4096 then (false, [], 5) else (s, l, 0)) := by
  by_cases hc : l.length > 4096
  · simp only [whole_number_told.f, whole_number_long.f, Option.bind_some]
    rw [if_pos (by simp; omega), if_pos hc]
  · simp only [whole_number_told.f, whole_number_long.f, Option.bind_some]
    rw [if_neg (by simp; omega), if_neg hc, whole_number_out.f, api_Nat_uint64.f, if_pos (by omega), Option.bind_some, Option.bind_some]
def ro (n m : Int) (up : Bool) : Int := if rn n m = 0 then qn n m else if up = true then (if decide (n < 0) = decide (m < 0) then qn n m + 1 else qn n m) else (if decide (n < 0) = decide (m < 0) then qn n m else qn n m - 1)
theorem rn_sign {n m : Int} (hm : m ≠ 0) (h : rn n m ≠ 0) : decide (rn n m < 0) = decide (n < 0) := by
  have h1 := rn_abs n hm
  have h2 : 0 ≤ (n.natAbs : Int) % (m.natAbs : Int) := Int.emod_nonneg _ (by omega)
  unfold rn at h ⊢
  by_cases hn : n < 0
  · rw [if_pos (decide_eq_true hn)] at h ⊢
    rw [decide_eq_true hn]; exact decide_eq_true (by omega)
  · rw [if_neg (by simpa using hn)] at h ⊢
    rw [decide_eq_false hn]; exact decide_eq_false (by omega)
theorem rounded_ev {n m : Int} {s t : Bool} {a b : List Int} (ha : Num 18446744073709551616 n s a) (hb : Num 18446744073709551616 m t b) (hm : m ≠ 0) (la : a.length ≤ 1048576) (lb : b.length ≤ 1048576) {x : Bool} {l : List Int} {y : Bool} {p : List Int} (h1 : Ev (fun k => whole_of.f k x l) (a, s)) (h2 : Ev (fun k => whole_of.f k y p) (b, t)) (up : Bool) :
    ∃ u q, Num 18446744073709551616 (ro n m up) u q ∧ Ev (fun k => whole_rounded.f k x l y p up) (if q.length > 4096 then (false, [], 5) else (u, q, 0)) := by
  obtain ⟨K1, e1⟩ := h1
  obtain ⟨K2, e2⟩ := h2
  obtain ⟨u, q, v, r, ⟨K3, e3⟩, N3, N4⟩ := cut_num ha hb hm (by omega) (by omega)
  have hne : ¬ decide (b = []) = true := by simpa using fun h => hm ((num_nil (by decide) hb).1 h)
  have lq := len_small (by decide) ha N3 (qn_le n m)
  have sv := N4.sign
  have ss := ha.sign
  have st := hb.sign
  obtain ⟨o1, No⟩ := one_num
  have inil := num_nil (by decide) N4
  have hd : ∀ k, K1 + K2 + K3 ≤ k → whole_rounded.f k x l y p up = (if decide (r = []) = true then (whole_number_told.f q u).bind fun z => some (z.1, z.2.1, z.2.2) else if up = true then whole_rounded.j0 k up (v == t) b t q u r v else whole_rounded.j0 k up false b t q u r v) := by
    intro k hk
    have g1 : whole_of.f k x l = _ := e1 k (by omega)
    have g2 : whole_of.f k y p = _ := e2 k (by omega)
    have g3 : whole_number_cut.f k a s b t = _ := e3 k (by omega)
    rw [whole_rounded.f, g2, Option.bind_some, null_eq, Option.bind_some, if_neg hne, g1, Option.bind_some, g3, Option.bind_some, null_eq, Option.bind_some]
  by_cases hr0 : rn n m = 0
  · refine ⟨u, q, by unfold ro; rw [if_pos hr0]; exact N3, ⟨K1 + K2 + K3, fun k hk => ?_⟩⟩
    show whole_rounded.f k x l y p up = _
    rw [hd k hk, if_pos (decide_eq_true (inil.2 hr0)), told_eq, Option.bind_some]
  · have hrn : ¬ decide (r = []) = true := by simpa using fun h => hr0 (inil.1 h)
    have hvs : v = s := by rw [sv, ss]; exact rn_sign hm hr0
    obtain ⟨u2, q2, ⟨K4, e4⟩, N5⟩ := plus_num N3 No (by omega) (by simp)
    obtain ⟨u3, q3, ⟨K5, e5⟩, N6⟩ := minus_num N3 No (by omega) (by simp)
    by_cases hst : decide (n < 0) = decide (m < 0)
    · have hst' : v = t := by rw [hvs, ss, st]; exact hst
      cases up with
      | true =>
        refine ⟨u2, q2, by unfold ro; rw [if_neg hr0, if_pos rfl, if_pos hst]; exact N5, ⟨K1 + K2 + K3 + K4 + 1, fun k hk => ?_⟩⟩
        obtain ⟨k, rfl⟩ : ∃ j, k = j + 1 := ⟨k - 1, by omega⟩
        have g4 : whole_number_plus.f k q u [1] false = _ := e4 k (by omega)
        show whole_rounded.f (k + 1) x l y p true = _
        rw [hd (k + 1) (by omega), if_neg hrn, if_pos rfl, whole_rounded.j0, if_pos (by rw [hst']; exact beq_self_eq_true t), o1, Option.bind_some, g4, Option.bind_some, told_eq, Option.bind_some]
      | false =>
        refine ⟨u, q, by unfold ro; rw [if_neg hr0, if_neg (by decide), if_pos hst]; exact N3, ⟨K1 + K2 + K3 + K4 + 2, fun k hk => ?_⟩⟩
        obtain ⟨k, rfl⟩ : ∃ j, k = j + 2 := ⟨k - 2, by omega⟩
        show whole_rounded.f (k + 1 + 1) x l y p false = _
        rw [hd (k + 1 + 1) (by omega), if_neg hrn, if_neg (by decide), whole_rounded.j0, if_neg (by decide), if_neg (by decide), whole_rounded.j1, if_neg (by rw [hst']; simp), told_eq, Option.bind_some]
    · have hst' : ¬ v = t := by rw [hvs, ss, st]; exact hst
      cases up with
      | true =>
        refine ⟨u, q, by unfold ro; rw [if_neg hr0, if_pos rfl, if_neg hst]; exact N3, ⟨K1 + K2 + K3 + K4 + 2, fun k hk => ?_⟩⟩
        obtain ⟨k, rfl⟩ : ∃ j, k = j + 2 := ⟨k - 2, by omega⟩
        show whole_rounded.f (k + 1 + 1) x l y p true = _
        rw [hd (k + 1 + 1) (by omega), if_neg hrn, if_pos rfl, whole_rounded.j0, if_neg (by simpa using hst'), if_pos rfl, whole_rounded.j1, if_neg (by decide), told_eq, Option.bind_some]
      | false =>
        refine ⟨u3, q3, by unfold ro; rw [if_neg hr0, if_neg (by decide), if_neg hst]; exact N6, ⟨K1 + K2 + K3 + K5 + 2, fun k hk => ?_⟩⟩
        obtain ⟨k, rfl⟩ : ∃ j, k = j + 2 := ⟨k - 2, by omega⟩
        have g5 : whole_number_minus.f k q u [1] false = _ := e5 k (by omega)
        show whole_rounded.f (k + 1 + 1) x l y p false = _
        rw [hd (k + 1 + 1) (by omega), if_neg hrn, if_neg (by decide), whole_rounded.j0, if_neg (by decide), if_neg (by decide), whole_rounded.j1, if_pos (by simpa using hst'), o1, Option.bind_some, g5, Option.bind_some, told_eq, Option.bind_some]
end Go.Proofs.YtodhkpdcpneeeaaDoor.PurePDv
namespace Go.Proofs.YtodhkpdcpneeeaaDoor.PurePDv
set_option linter.unusedVariables false
set_option linter.unusedSimpArgs false
open Go.RowKit Go.Proofs.YtodhkpdcpneeeaaDoorW.PrintWords Go.Proofs.YtodhkpdcpneeeaaDoorW.PrintLast Go.Proofs.YtodhkpdcpneeeaaDoorW.PrintMore Go.Proofs.YtodhkpdcpneeeaaDoor.PDv Go.Proofs.YtodhkpdcpneeeaaDoor Go.Proofs.YtodhkpdcpneeeaaDoor.Mine Big
theorem AN.rounded {L L' : Nat} {n m : Int} {s t : Bool} {l p : List Int} (h : AN L n s l) (g : AN L' m t p) (hm : m ≠ 0) (hL : L ≤ 4000) (hL' : L' ≤ 4000) (up : Bool) : ∃ u q, Ev (fun k => whole_rounded.f k s l t p up) (u, q, 0) ∧ Num 18446744073709551616 (ro n m up) u q ∧ q.length ≤ L + 1 := by
  obtain ⟨a, s1, E1, N1, l1⟩ := h
  obtain ⟨b, s2, E2, N2, l2⟩ := g
  obtain ⟨u, q, N3, hW⟩ := rounded_ev N1 N2 hm (by omega) (by omega) E1 E2 up
  obtain ⟨o1, No⟩ := one_num
  have h1 := qn_le n m
  have h2 : ((ro n m up).natAbs : Int) ≤ n.natAbs + 1 := by
    unfold ro
    split
    · omega
    · split
      · split <;> omega
      · split <;> omega
  have hq : q.length ≤ L + 1 := by
    by_cases h0 : a.length = 0
    · have hn : n = 0 := (num_nil (by decide) N1).1 (List.length_eq_zero_iff.1 h0)
      have := len_small (by decide) No N3 (by omega)
      simp at this
      omega
    · have := num_len (by decide) N1 No N3 (by omega) (L := max a.length 1) (by omega) (by simp; omega)
      omega
  rw [if_neg (by omega)] at hW
  exact ⟨u, q, hW, N3, hq⟩
theorem sg_eq_zero (n : Int) : sg n = 0 ↔ n = 0 := by
  rcases Int.lt_trichotomy n 0 with h | h | h
  · rw [sg_neg h]; omega
  · rw [sg_zero h]; omega
  · rw [sg_pos h]; omega
theorem sg_lt_zero (n : Int) : sg n < 0 ↔ n < 0 := by
  rcases Int.lt_trichotomy n 0 with h | h | h
  · rw [sg_neg h]; omega
  · rw [sg_zero h]; omega
  · rw [sg_pos h]; omega
theorem near_math (n : Int) {m : Int} (hm : m ≠ 0) : ro n m true - ro n m false = (if rn n m = 0 then 0 else 1) ∧ ((n - ro n m false * m).natAbs : Int) < m.natAbs ∧ (n - ro n m false * m ≠ 0 → sg (n - ro n m false * m) = sg m) := by
  have h1 := qr_eq n hm
  have h2 := rn_lt n hm
  have h3 := rn_pos n hm
  have key : ∀ c : Int, n - (qn n m - c) * m = rn n m + c * m := by
    intro c
    rw [Int.sub_mul]; omega
  by_cases hr : rn n m = 0
  · have e1 : ro n m true = qn n m := by unfold ro; rw [if_pos hr]
    have e2 : ro n m false = qn n m := by unfold ro; rw [if_pos hr]
    have k0 := key 0
    rw [Int.sub_zero, Int.zero_mul] at k0
    rw [e1, e2, if_pos hr, k0, hr]
    refine ⟨by omega, by omega, fun h => absurd h (by simp)⟩
  · rw [if_neg hr]
    by_cases hs : decide (n < 0) = decide (m < 0)
    · have e1 : ro n m true = qn n m + 1 := by unfold ro; rw [if_neg hr, if_pos rfl, if_pos hs]
      have e2 : ro n m false = qn n m := by unfold ro; rw [if_neg hr, if_neg (by decide), if_pos hs]
      have k0 := key 0
      rw [Int.sub_zero, Int.zero_mul] at k0
      have hs' : n < 0 ↔ m < 0 := by simpa using hs
      rw [e1, e2, k0]
      refine ⟨by omega, by omega, fun _ => ?_⟩
      rcases Int.lt_or_le n 0 with h | h
      · have := h3.2 (by omega)
        rw [sg_neg (by omega), sg_neg (hs'.1 h)]
      · have := h3.1 h
        rw [sg_pos (by omega), sg_pos (by have : ¬ m < 0 := fun g => by have := hs'.2 g; omega
                                          omega)]
    · have e1 : ro n m true = qn n m := by unfold ro; rw [if_neg hr, if_pos rfl, if_neg hs]
      have e2 : ro n m false = qn n m - 1 := by unfold ro; rw [if_neg hr, if_neg (by decide), if_neg hs]
      have k1 := key 1
      rw [Int.one_mul] at k1
      have hs' : ¬ (n < 0 ↔ m < 0) := by simpa using hs
      rw [e1, e2, k1]
      rcases Int.lt_or_le n 0 with h | h
      · have := h3.2 (by omega)
        have hm' : ¬ m < 0 := fun g => hs' ⟨fun _ => g, fun _ => h⟩
        refine ⟨by omega, by omega, fun _ => ?_⟩
        rw [sg_pos (by omega), sg_pos (by omega)]
      · have := h3.1 h
        have hm' : m < 0 := by
          refine Classical.byContradiction fun g => hs' ⟨fun h' => absurd h' (by omega), fun h' => absurd h' g⟩
        refine ⟨by omega, by omega, fun _ => ?_⟩
        rw [sg_neg (by omega), sg_neg (by omega)]
theorem short_eq (s : Bool) (l : List Int) : tribunallaw02_short.f s l = some (decide ((l.length : Int) ≤ 1000)) := rfl
theorem near_j2 {x m : Int} {L L' : Nat} {s t : Bool} {l p : List Int} (h : AN L x s l) (g : AN L' m t p) (hL : L ≤ 4000) (hL' : L' ≤ 4000) (h1 : (x.natAbs : Int) < m.natAbs) (h2 : x ≠ 0 → sg x = sg m) : Ev (fun k => tribunallaw02_WholeNear.j2 k false t p s l) true := by
  obtain ⟨q, ⟨K1, e1⟩, N1, l1⟩ := h.abs (by omega)
  obtain ⟨r, ⟨K2, e2⟩, N2, l2⟩ := g.abs (by omega)
  obtain ⟨K3, e3⟩ := (AN.of N1 (show q.length ≤ L by omega) (by omega)).cmp (AN.of N2 (show r.length ≤ L' by omega) (by omega)) (by omega) (by omega)
  obtain ⟨K4, e4⟩ := h.sign (by omega)
  obtain ⟨K5, e5⟩ := g.sign (by omega)
  refine ⟨K1 + K2 + K3 + K4 + K5 + 1, fun k hk => ?_⟩
  obtain ⟨k, rfl⟩ : ∃ j, k = j + 1 := ⟨k - 1, by omega⟩
  have g1 : whole_Abs.f k s l = _ := e1 k (by omega)
  have g2 : whole_Abs.f k t p = _ := e2 k (by omega)
  have g3 : whole_Cmp.f k false q false r = _ := e3 k (by omega)
  have g4 : whole_Sign.f k s l = _ := e4 k (by omega)
  have g5 : whole_Sign.f k t p = _ := e5 k (by omega)
  show tribunallaw02_WholeNear.j2 (k + 1) false t p s l = _
  rw [tribunallaw02_WholeNear.j2, if_neg (by decide), g1, Option.bind_some, g2, Option.bind_some, g3, Option.bind_some, if_pos ((sg_lt_zero _).2 (by omega)), g4, Option.bind_some]
  by_cases h0 : x = 0
  · rw [if_pos ((sg_eq_zero x).2 h0)]
  · rw [if_neg (fun h => h0 ((sg_eq_zero x).1 h)), Option.bind_some, g5, Option.bind_some, h2 h0, beq_self_eq_true]
theorem near_j1 {d c x m : Int} {L1 L2 L L' : Nat} {s t u v : Bool} {l p q r : List Int} (hd : AN L1 d u q) (hc : AN L2 c v r) (hdc : d = c) (h : AN L x s l) (g : AN L' m t p) (hL1 : L1 ≤ 4000) (hL2 : L2 ≤ 4000) (hL : L ≤ 4000) (hL' : L' ≤ 4000) (h1 : (x.natAbs : Int) < m.natAbs) (h2 : x ≠ 0 → sg x = sg m) : Ev (fun k => tribunallaw02_WholeNear.j1 k 0 0 0 0 0 0 t p u q s l v r) true := by
  obtain ⟨K1, e1⟩ := hd.cmp hc (by omega) (by omega)
  obtain ⟨K2, e2⟩ := near_j2 h g hL hL' h1 h2
  refine ⟨K1 + K2 + 1, fun k hk => ?_⟩
  obtain ⟨k, rfl⟩ : ∃ j, k = j + 1 := ⟨k - 1, by omega⟩
  have g1 : whole_Cmp.f k u q v r = _ := e1 k (by omega)
  have g2 : tribunallaw02_WholeNear.j2 k false t p s l = _ := e2 k (by omega)
  have hz : (sg (d - c) != 0) = false := by rw [sg_zero (by omega)]; rfl
  show tribunallaw02_WholeNear.j1 (k + 1) 0 0 0 0 0 0 t p u q s l v r = _
  rw [tribunallaw02_WholeNear.j1, if_pos rfl, if_pos rfl, if_pos rfl, if_pos rfl, if_pos rfl, if_pos rfl, g1, Option.bind_some, hz, g2]
theorem near_j0 {n m : Int} {s t : Bool} {l p : List Int} (h : AN 1000 n s l) (g : AN 1000 m t p) : Ev (fun k => tribunallaw02_WholeNear.j0 k false s l t p) true := by
  obtain ⟨K0, e0⟩ := g.sign (by omega)
  by_cases hm : m = 0
  · subst hm
    obtain ⟨K1, e1⟩ := g.rounded0 (s := s) (l := l) false
    obtain ⟨K2, e2⟩ := g.rounded0 (s := s) (l := l) true
    obtain ⟨K3, e3⟩ := g.quo0 (s := s) (l := l)
    refine ⟨K0 + K1 + K2 + K3 + 1, fun k hk => ?_⟩
    obtain ⟨k, rfl⟩ : ∃ j, k = j + 1 := ⟨k - 1, by omega⟩
    have g0 : whole_Sign.f k t p = _ := e0 k (by omega)
    have g1 : whole_rounded.f k s l t p false = _ := e1 k (by omega)
    have g2 : whole_rounded.f k s l t p true = _ := e2 k (by omega)
    have g3 : whole_Quo.f k s l t p = _ := e3 k (by omega)
    show tribunallaw02_WholeNear.j0 (k + 1) false s l t p = _
    rw [tribunallaw02_WholeNear.j0, if_neg (by decide), whole_Floor.f, g1, Option.bind_some, Option.bind_some, whole_Ceil.f, g2, Option.bind_some, Option.bind_some, g3, Option.bind_some, g0, Option.bind_some, if_pos (sg_zero rfl), if_pos rfl, if_pos rfl]
    rfl
  · obtain ⟨u1, q1, ⟨K1, e1⟩, N1, l1⟩ := h.rounded g hm (by omega) (by omega) false
    obtain ⟨u2, q2, ⟨K2, e2⟩, N2, l2⟩ := h.rounded g hm (by omega) (by omega) true
    obtain ⟨u3, q3, u4, q4, ⟨K3, e3⟩, N3, N4, l3, l4⟩ := h.quo g hm (by omega) (by omega)
    have A1 := AN.of N1 (L := 1001) (by omega) (by omega)
    have A2 := AN.of N2 (L := 1001) (by omega) (by omega)
    have A4 := AN.of N4 (L := 1000) (by omega) (by omega)
    obtain ⟨u5, q5, ⟨K5, e5⟩, N5, l5⟩ := A2.sub A1 (by omega) (by omega)
    obtain ⟨u6, q6, ⟨K6, e6⟩, N6, l6⟩ := A1.mul g (by omega)
    have A6 := AN.of N6 (L := 2001) (by omega) (by omega)
    obtain ⟨u7, q7, ⟨K7, e7⟩, N7, l7⟩ := h.sub A6 (by omega) (by omega)
    obtain ⟨v8, q8, ⟨K8, e8⟩, N8, l8⟩ := AN.one
    obtain ⟨v9, q9, ⟨K9, e9⟩, N9, l9⟩ := AN.zero
    obtain ⟨K10, e10⟩ := A4.sign (by omega)
    have A5 := AN.of N5 (L := 2000) (by omega) (by omega)
    have A7 := AN.of N7 (L := 3000) (by omega) (by omega)
    obtain ⟨M1, M2, M3⟩ := near_math n hm
    have sm : ¬ sg m = 0 := fun h => hm ((sg_eq_zero m).1 h)
    by_cases hr : rn n m = 0
    · rw [if_pos hr] at M1
      obtain ⟨K11, e11⟩ := near_j1 A5 (AN.of N9 (L := 1) l9 (by omega)) M1 A7 g (by omega) (by omega) (by omega) (by omega) M2 M3
      refine ⟨K0 + K1 + K2 + K3 + K5 + K6 + K7 + K8 + K9 + K10 + K11 + 1, fun k hk => ?_⟩
      obtain ⟨k, rfl⟩ : ∃ j, k = j + 1 := ⟨k - 1, by omega⟩
      have g0 : whole_Sign.f k t p = _ := e0 k (by omega)
      have g1 : whole_rounded.f k s l t p false = _ := e1 k (by omega)
      have g2 : whole_rounded.f k s l t p true = _ := e2 k (by omega)
      have g3 : whole_Quo.f k s l t p = _ := e3 k (by omega)
      have g5 : whole_Sub.f k u2 q2 u1 q1 = _ := e5 k (by omega)
      have g6 : whole_Mul.f k u1 q1 t p = _ := e6 k (by omega)
      have g7 : whole_Sub.f k s l u6 q6 = _ := e7 k (by omega)
      have g8 : whole_Of.f k 1 = _ := e8 k (by omega)
      have g9 : whole_Of.f k 0 = _ := e9 k (by omega)
      have g10 : whole_Sign.f k u4 q4 = _ := e10 k (by omega)
      have g11 : tribunallaw02_WholeNear.j1 k 0 0 0 0 0 0 t p u5 q5 u7 q7 v9 q9 = _ := e11 k (by omega)
      show tribunallaw02_WholeNear.j0 (k + 1) false s l t p = _
      rw [tribunallaw02_WholeNear.j0, if_neg (by decide), whole_Floor.f, g1, Option.bind_some, Option.bind_some, whole_Ceil.f, g2, Option.bind_some, Option.bind_some, g3, Option.bind_some, g0, Option.bind_some, if_neg sm, g5, Option.bind_some, g6, Option.bind_some, g7, Option.bind_some, g8, Option.bind_some, g10, Option.bind_some, if_pos (sg_zero hr), g9, Option.bind_some, g11]
    · rw [if_neg hr] at M1
      obtain ⟨K11, e11⟩ := near_j1 A5 (AN.of N8 (L := 1) l8 (by omega)) M1 A7 g (by omega) (by omega) (by omega) (by omega) M2 M3
      refine ⟨K0 + K1 + K2 + K3 + K5 + K6 + K7 + K8 + K9 + K10 + K11 + 1, fun k hk => ?_⟩
      obtain ⟨k, rfl⟩ : ∃ j, k = j + 1 := ⟨k - 1, by omega⟩
      have g0 : whole_Sign.f k t p = _ := e0 k (by omega)
      have g1 : whole_rounded.f k s l t p false = _ := e1 k (by omega)
      have g2 : whole_rounded.f k s l t p true = _ := e2 k (by omega)
      have g3 : whole_Quo.f k s l t p = _ := e3 k (by omega)
      have g5 : whole_Sub.f k u2 q2 u1 q1 = _ := e5 k (by omega)
      have g6 : whole_Mul.f k u1 q1 t p = _ := e6 k (by omega)
      have g7 : whole_Sub.f k s l u6 q6 = _ := e7 k (by omega)
      have g8 : whole_Of.f k 1 = _ := e8 k (by omega)
      have g10 : whole_Sign.f k u4 q4 = _ := e10 k (by omega)
      have g11 : tribunallaw02_WholeNear.j1 k 0 0 0 0 0 0 t p u5 q5 u7 q7 v8 q8 = _ := e11 k (by omega)
      show tribunallaw02_WholeNear.j0 (k + 1) false s l t p = _
      rw [tribunallaw02_WholeNear.j0, if_neg (by decide), whole_Floor.f, g1, Option.bind_some, Option.bind_some, whole_Ceil.f, g2, Option.bind_some, Option.bind_some, g3, Option.bind_some, g0, Option.bind_some, if_neg sm, g5, Option.bind_some, g6, Option.bind_some, g7, Option.bind_some, g8, Option.bind_some, g10, Option.bind_some, if_neg (fun h => hr ((sg_eq_zero _).1 h)), g11]
theorem near_true (s : Bool) (l : List Int) (t : Bool) (p : List Int) : Ev (fun k => tribunallaw02_WholeNear.j0 k true s l t p) true :=
  ⟨1, fun k hk => by
    obtain ⟨k, rfl⟩ : ∃ j, k = j + 1 := ⟨k - 1, by omega⟩
    show tribunallaw02_WholeNear.j0 (k + 1) true s l t p = _
    rw [tribunallaw02_WholeNear.j0, if_pos rfl]⟩
end Go.Proofs.YtodhkpdcpneeeaaDoor.PurePDv
namespace Go.Proofs.YtodhkpdcpneeeaaDoor.Pure
open Go.RowKit Go.Proofs.YtodhkpdcpneeeaaDoorW.PrintWords Go.Proofs.YtodhkpdcpneeeaaDoorW.PrintLast Go.Proofs.YtodhkpdcpneeeaaDoorW.PrintMore Go.Proofs.YtodhkpdcpneeeaaDoor.PDv Go.Proofs.YtodhkpdcpneeeaaDoor Go.Proofs.YtodhkpdcpneeeaaDoor.Mine Big PurePDv
theorem wholeNear_pure (a : Bool) (x : List Int) (hx : x.length ≤ 1048576) (wx : ∀ z ∈ x, (Lit.int .u64 z).wf = true) (b : Bool) (y : List Int) (hy : y.length ≤ 1048576) (wy : ∀ z ∈ y, (Lit.int .u64 z).wf = true) : ∃ k, PDv.tribunallaw02_WholeNear.f k a x b y = some true := by
  obtain ⟨n, h⟩ := AN.arg a x hx (dig_of_wf wx)
  obtain ⟨m, g⟩ := AN.arg b y hy (dig_of_wf wy)
  obtain ⟨K1, e1⟩ := awake_ev
  obtain ⟨K2, e2⟩ := near_true a x b y
  by_cases c1 : x.length ≤ 1000
  · by_cases c2 : y.length ≤ 1000
    · obtain ⟨K3, e3⟩ := near_j0 (h.up c1) (g.up c2)
      refine ⟨K1 + K3, ?_⟩
      have g1 : tribunallaw02_awake.f (K1 + K3) = _ := e1 _ (by omega)
      have g3 : tribunallaw02_WholeNear.j0 (K1 + K3) false a x b y = _ := e3 _ (by omega)
      rw [tribunallaw02_WholeNear.f, g1, Option.bind_some, if_pos rfl, short_eq, Option.bind_some, if_pos (decide_eq_true (by omega)), short_eq, Option.bind_some, decide_eq_true (by omega), Bool.not_true, g3]
    · refine ⟨K1 + K2, ?_⟩
      have g1 : tribunallaw02_awake.f (K1 + K2) = _ := e1 _ (by omega)
      have g2 : tribunallaw02_WholeNear.j0 (K1 + K2) true a x b y = _ := e2 _ (by omega)
      rw [tribunallaw02_WholeNear.f, g1, Option.bind_some, if_pos rfl, short_eq, Option.bind_some, if_pos (decide_eq_true (by omega)), short_eq, Option.bind_some, decide_eq_false (by omega), Bool.not_false, g2]
  · refine ⟨K1 + K2, ?_⟩
    have g1 : tribunallaw02_awake.f (K1 + K2) = _ := e1 _ (by omega)
    have g2 : tribunallaw02_WholeNear.j0 (K1 + K2) true a x b y = _ := e2 _ (by omega)
    rw [tribunallaw02_WholeNear.f, g1, Option.bind_some, if_pos rfl, short_eq, Option.bind_some, if_neg (by simpa using by omega), g2]
end Go.Proofs.YtodhkpdcpneeeaaDoor.Pure
