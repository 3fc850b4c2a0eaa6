/- What the card rests on, part 6: words of the walk, the functions in Lean and that the code comes to them. No condition beyond those that each theorem names. -/
import Derived.Test.YtodhkpdcpneeeaaDoorCq5
set_option maxHeartbeats 8000000
set_option maxRecDepth 100000
namespace Go.Proofs.YtodhkpdcpneeeaaDoor.PurePQv
set_option linter.unusedVariables false
set_option linter.unusedSimpArgs false
open Go.RowKit Go.Proofs.YtodhkpdcpneeeaaDoorW.PrintWords Go.Proofs.YtodhkpdcpneeeaaDoorW.PrintLast Go.Proofs.YtodhkpdcpneeeaaDoorW.PrintMore Go.Proofs.YtodhkpdcpneeeaaDoor.PQv Go.Proofs.YtodhkpdcpneeeaaDoor Go.Proofs.YtodhkpdcpneeeaaDoor.Mine Big
theorem down_or {s P Q : Int} (h : Sh s P Q) {o x : Int} (hx : 0 ≤ x ∧ x < 18446744073709551616) (ho : 0 ≤ o ∧ o < Q) : Go.bits .or .u64 o (x % P * Q) = o + x % P * Q := by
  obtain ⟨t, et, _⟩ := h.Q1
  obtain ⟨_, _, _, e4, e5, _⟩ := shl_parts h.Q0 h.P0 (by rw [Int.mul_comm]; exact h.PQ) hx
  have hQ := h.Q_le
  rw [(or_add t ⟨e4, e5⟩ ⟨x % P, by rw [et]⟩ (by rw [← et]; exact ho) (by omega)).2, Int.add_comm]
theorem down_out0 {s P Q : Int} (h : Sh s P Q) (h0 : ¬ s > 0) (x : Int) : x % P = 0 := by
  obtain ⟨t, et, es⟩ := h.P1
  have hs := h.s0
  have hP1 : P = 1 := by rw [et, ← es, show s = 0 from by omega]; rfl
  rw [hP1]; omega
def downSet (out : List Int) (i : Nat) (x P Q : Int) : List Int := if i = 0 then out.set 0 (x / P) else (out.set i (x / P)).set (i - 1) (out.getD (i - 1) 0 + x % P * Q)
theorem set_getD_same (l : List Int) (i : Nat) : l.set i (l.getD i 0) = l := by
  refine List.ext_getElem (by simp) fun j h1 h2 => ?_
  by_cases hj : i = j
  · subst hj
    rw [List.getElem_set_self, List.getD_eq_getElem?_getD, List.getElem?_eq_getElem h2, Option.getD_some]
  · rw [List.getElem_set_ne hj]
theorem down_step (k : Nat) {s P Q : Int} (h : Sh s P Q) (a out : List Int) (i : Nat) (hi : i < a.length) (hl : a.length ≤ 8388608) (ho : out.length = a.length) (da : Dig 18446744073709551616 a) (hz : out.getD i 0 = 0) (hw : 0 < i → 0 ≤ out.getD (i - 1) 0 ∧ out.getD (i - 1) 0 < Q) :
    whole_amount_down.l0 (k + 1) s out a (a.length : Int) (i : Int) = whole_amount_down.l0 k s (downSet out i (a.getD i 0) P Q) a (a.length : Int) ((i + 1 : Nat) : Int) := by
  have ga := getD_dig (by decide) da i
  have hwr := step_wrap i a.length hi hl
  have c1 : (i : Int) < (a.length : Int) := by omega
  have c2 : (0 : Int) ≤ (i : Int) := by omega
  have c3 : (i : Int) < (out.length : Int) := by omega
  have c4 := h.s0.1
  have c7 : (0 : Int) ≤ 64 - s := by have := h.s0; omega
  have hcount := h.count
  have hR := h.eqR (x := a.getD i 0)
  have hL := h.eqL' ga
  have hx : 0 ≤ a.getD i 0 / P ∧ a.getD i 0 / P < 18446744073709551616 := by
    have h1 := Int.ediv_nonneg ga.1 (Int.le_of_lt h.P0)
    have h2 := Int.ediv_le_self P ga.1
    exact ⟨h1, by omega⟩
  have hor0 := or_nil hx
  have ra := rd_getD a i
  have ro := rd_getD out i
  rw [hz] at ro
  by_cases hi0 : i = 0
  · subst hi0
    rw [whole_amount_down.l0, if_pos c1, if_pos c2, if_pos c1, if_pos c3, if_pos c4, Option.bind_some, ra, ro, hR, hor0, hwr, Int.toNat_natCast, if_neg (show ¬ ((0 : Nat) : Int) > 0 by decide), ite_self, downSet, if_pos rfl]
  · have hpr : wrap64 ((i : Int) - 1) = ((i - 1 : Nat) : Int) := by rw [w64 _ (by omega)]; omega
    have rp := rd_getD (out.set i (a.getD i 0 / P)) (i - 1)
    rw [getD_set_ne _ _ _ _ (by omega)] at rp
    have hor := down_or h ga (hw (by omega))
    have c5 : (0 : Int) ≤ ((i - 1 : Nat) : Int) := by omega
    have c6 : ((i - 1 : Nat) : Int) < (out.length : Int) := by omega
    have c8 : (i : Int) > 0 := by omega
    rw [whole_amount_down.l0, if_pos c1, if_pos c2, if_pos c1, if_pos c3, if_pos c4, Option.bind_some, ra, ro, hR, hor0, hwr, hpr, Int.toNat_natCast, Int.toNat_natCast, rp, downSet, if_neg hi0]
    by_cases h0 : s > 0
    · rw [if_pos h0, if_pos c8, if_pos c5, if_pos c6, hcount, if_pos c7, hL, hor]
    · rw [if_neg h0, down_out0 h h0, Int.zero_mul, Int.add_zero]
      have e := set_getD_same (out.set i (a.getD i 0 / P)) (i - 1)
      rw [getD_set_ne _ _ _ _ (by omega)] at e
      rw [e]
theorem down_val {P Q A x V : Int} (hP : 0 < P) (hPQ : P * Q = 18446744073709551616) (i : Nat) (hi : 0 < i) (hV : V = A / P) :
    V + (x / P) * 18446744073709551616 ^ i + (x % P * Q) * 18446744073709551616 ^ (i - 1) = (A + x * 18446744073709551616 ^ i) / P := by
  obtain ⟨j, rfl⟩ : ∃ j, i = j + 1 := ⟨i - 1, by omega⟩
  rw [Nat.add_sub_cancel, Int.pow_succ]
  generalize (18446744073709551616 : Int) ^ j = W
  rw [← hPQ, hV]
  have h1 := Int.mul_ediv_add_emod x P
  have e : A + x * (W * (P * Q)) = A + (x * W * Q) * P := by
    rw [Int.mul_comm P Q, ← Int.mul_assoc W, ← Int.mul_assoc x, ← Int.mul_assoc x W Q]
  rw [e, Int.add_mul_ediv_right _ _ (Int.ne_of_gt hP)]
  have e2 : x * W * Q = x / P * (W * (P * Q)) + x % P * Q * W := by
    have : x * W * Q = (P * (x / P) + x % P) * W * Q := by rw [h1]
    rw [this, Int.add_mul, Int.add_mul]
    congr 1
    · rw [Int.mul_comm P (x / P), Int.mul_assoc, Int.mul_assoc, ← Int.mul_assoc P W Q, Int.mul_comm P W, Int.mul_assoc]
    · rw [Int.mul_assoc, Int.mul_comm W Q, ← Int.mul_assoc]
  rw [e2]; omega
theorem down_l0 {s P Q : Int} (h : Sh s P Q) (a : List Int) (hl : a.length ≤ 8388608) (da : Dig 18446744073709551616 a) : ∀ (n i : Nat) (out : List Int), i + n = a.length → out.length = a.length → Dig 18446744073709551616 out → val 18446744073709551616 out = val 18446744073709551616 (a.take i) / P → (∀ t, i ≤ t → out.getD t 0 = 0) → (0 < i → out.getD (i - 1) 0 < Q) →
    ∃ r, Ev (fun k => whole_amount_down.l0 k s out a (a.length : Int) (i : Int)) r ∧ Rep 18446744073709551616 (val 18446744073709551616 a / P) r := by
  intro n
  induction n with
  | zero =>
    intro i out hi ho hd hv hz hw
    obtain ⟨r, ⟨K, hr⟩, h1, h2, h3⟩ := whole_trimmed_ev (B := 18446744073709551616) (l := out) (by omega) hd
    refine ⟨r, ⟨K + 1, fun k hk => ?_⟩, h1, h2, by rw [h3, hv, show i = a.length from by omega, List.take_length]⟩
    obtain ⟨k, rfl⟩ : ∃ j, k = j + 1 := ⟨k - 1, by omega⟩
    have hk' : whole_trimmed.f k out = some r := hr k (by omega)
    show whole_amount_down.l0 (k + 1) s out a (a.length : Int) (i : Int) = some r
    rw [whole_amount_down.l0, if_neg (by omega), hk', Option.bind_some]
  | succ n ih =>
    intro i out hi ho hd hv hz hw
    have hil : i < a.length := by omega
    have ga := getD_dig (by decide) da i
    have hzi := hz i (Nat.le_refl _)
    have hwi : 0 < i → 0 ≤ out.getD (i - 1) 0 ∧ out.getD (i - 1) 0 < Q := fun x => ⟨(getD_dig (by decide) hd (i - 1)).1, hw x⟩
    have hx1 := Int.ediv_nonneg ga.1 (Int.le_of_lt h.P0)
    have hx2 : a.getD i 0 / P < Q := Int.ediv_lt_of_lt_mul h.P0 (by rw [Int.mul_comm, h.PQ]; exact ga.2)
    have hQ := h.Q_le
    obtain ⟨_, _, _, e4, e5, _⟩ := shl_parts h.Q0 h.P0 (by rw [Int.mul_comm]; exact h.PQ) ga
    have hm1 : a.getD i 0 % P + 1 ≤ P := by have := Int.emod_lt_of_pos (a.getD i 0) h.P0; omega
    have hm2 := Int.mul_le_mul_of_nonneg_right hm1 (Int.le_of_lt h.Q0)
    rw [h.PQ, Int.add_mul, Int.one_mul] at hm2
    obtain ⟨r, ⟨K, hr⟩, hq⟩ := ih (i + 1) (downSet out i (a.getD i 0) P Q) (by omega) (by unfold downSet; split <;> simp [ho])
      (by unfold downSet; split
          · exact hd.set 0 ⟨hx1, by omega⟩
          · rename_i hi0
            have := hwi (by omega)
            exact (hd.set i ⟨hx1, by omega⟩).set (i - 1) ⟨by omega, by omega⟩)
      (by unfold downSet; split
          · rename_i hi0; subst hi0
            rw [val_set_getD _ _ _ _ (by omega), hzi, hv, val_take_getD]
            simp [val]
          · rename_i hi0
            rw [val_set_getD _ _ _ _ (by simp; omega), val_set_getD _ _ _ _ (by omega), getD_set_ne _ _ _ _ (by omega), hzi, val_take_getD, ← down_val h.P0 h.PQ i (by omega) hv, Int.sub_zero, show out.getD (i - 1) 0 + a.getD i 0 % P * Q - out.getD (i - 1) 0 = a.getD i 0 % P * Q from by omega])
      (by intro t ht
          unfold downSet; split
          · rw [getD_set_ne _ _ _ _ (by omega)]; exact hz t (by omega)
          · rw [getD_set_ne _ _ _ _ (by omega), getD_set_ne _ _ _ _ (by omega)]; exact hz t (by omega))
      (by intro _
          rw [Nat.add_sub_cancel]
          unfold downSet; split
          · rename_i hi0; subst hi0
            rw [getD_set_eq _ _ _ (by omega)]; exact hx2
          · rw [getD_set_ne _ _ _ _ (by omega), getD_set_eq _ _ _ (by omega)]; exact hx2)
    refine ⟨r, ⟨K + 1, fun k hk => ?_⟩, hq⟩
    obtain ⟨k, rfl⟩ : ∃ j, k = j + 1 := ⟨k - 1, by omega⟩
    show whole_amount_down.l0 (k + 1) s out a (a.length : Int) (i : Int) = some r
    rw [down_step k h a out i hil hl ho da hzi hwi]
    exact hr k (by omega)
theorem down_ev {s P Q : Int} (h : Sh s P Q) (a : List Int) (hl : a.length ≤ 8388608) (da : Dig 18446744073709551616 a) :
    ∃ r, Ev (fun k => whole_amount_down.f k a s) r ∧ Rep 18446744073709551616 (val 18446744073709551616 a / P) r := by
  have hz : ∀ t, (List.replicate a.length (0 : Int)).getD t 0 = 0 := fun t => by
    simp [List.getD_eq_getElem?_getD, List.getElem?_replicate]; split <;> rfl
  obtain ⟨r, ⟨K, hr⟩, hq⟩ := down_l0 h a hl da a.length 0 (List.replicate a.length 0) (by omega) (by simp) (Dig.rep (by decide) _) (by rw [val_replicate]; simp [val]) (fun t _ => hz t) (fun x => absurd x (by decide))
  refine ⟨r, ⟨K, fun k hk => ?_⟩, hq⟩
  show whole_amount_down.f k a s = some r
  rw [whole_amount_down.f, if_pos (by omega), Int.toNat_natCast, if_pos (by omega)]
  exact hr k hk
theorem len_of_le {B : Int} (hB : 0 < B) {a b : List Int} (da : Dig B a) (db : Dig B b) (tb : Top b) (h : val B b ≤ val B a) : b.length ≤ a.length := by
  refine Classical.byContradiction fun hc => ?_
  have := lt_of_len hB da db tb (by omega)
  omega
theorem normal {b v : List Int} {n : Nat} {P : Int} (hn : b.length = n) (hn2 : 2 ≤ n) (hv : v.length = n + 1) (db : Dig 18446744073709551616 b) (dv : Dig 18446744073709551616 v) (hP : 0 < P) (hdvd : ∃ Q, P * Q = 18446744073709551616) (h1 : 9223372036854775808 ≤ b.getD (n - 1) 0 * P) (h2 : b.getD (n - 1) 0 * P < 18446744073709551616) (hval : val 18446744073709551616 v = val 18446744073709551616 b * P) :
    val 18446744073709551616 (v.take n) = val 18446744073709551616 b * P ∧ 9223372036854775808 ≤ (v.take n).getD (n - 1) 0 ∧ 18446744073709551616 ^ (n - 1) * P ≤ val 18446744073709551616 b * P := by
  obtain ⟨m, rfl⟩ : ∃ m, n = m + 1 := ⟨n - 1, by omega⟩
  rw [Nat.add_sub_cancel] at *
  have eb : val 18446744073709551616 b = val 18446744073709551616 (b.take m) + b.getD m 0 * 18446744073709551616 ^ m := by
    have := val_take_getD 18446744073709551616 b m
    rw [List.take_of_length_le (show b.length ≤ m + 1 by omega)] at this
    exact this
  have b0 := val_nonneg (B := 18446744073709551616) (by decide) (db.take m)
  have b1 := val_lt (B := 18446744073709551616) (by decide) (db.take m)
  rw [List.length_take, Nat.min_eq_left (by omega)] at b1
  have hW := pow_pos (B := 18446744073709551616) (by decide) m
  obtain ⟨Q, hQ⟩ := hdvd
  have htop : (b.getD m 0 + 1) * P ≤ 18446744073709551616 := by
    refine Classical.byContradiction fun hx => ?_
    have h3 : b.getD m 0 * P < Q * P := by rw [Int.mul_comm Q P, hQ]; exact h2
    have h4 : b.getD m 0 < Q := Int.lt_of_mul_lt_mul_right h3 (Int.le_of_lt hP)
    have h5 := Int.mul_le_mul_of_nonneg_right (show b.getD m 0 + 1 ≤ Q by omega) (Int.le_of_lt hP)
    rw [Int.mul_comm Q P, hQ] at h5
    omega
  have hb1 : 1 ≤ b.getD m 0 := by
    refine Classical.byContradiction fun hx => ?_
    have := Int.mul_le_mul_of_nonneg_right (show b.getD m 0 ≤ 0 by omega) (Int.le_of_lt hP)
    omega
  generalize b.getD m 0 = t at *
  have hlow : 18446744073709551616 ^ m ≤ val 18446744073709551616 b := by
    have := Int.mul_le_mul_of_nonneg_right hb1 (Int.le_of_lt hW)
    omega
  have hup : val 18446744073709551616 b * P < 18446744073709551616 ^ (m + 1) := by
    have h3 : val 18446744073709551616 b < (t + 1) * 18446744073709551616 ^ m := by rw [Int.add_mul, Int.one_mul]; omega
    have h4 := Int.mul_lt_mul_of_pos_right h3 hP
    have h5 := Int.mul_le_mul_of_nonneg_right htop (Int.le_of_lt hW)
    have e : (t + 1) * 18446744073709551616 ^ m * P = (t + 1) * P * 18446744073709551616 ^ m := by
      rw [Int.mul_assoc, Int.mul_comm (18446744073709551616 ^ m) P, ← Int.mul_assoc]
    rw [Int.pow_succ, Int.mul_comm (18446744073709551616 ^ m)]
    omega
  have hvt := val_take_of_lt (n := m + 1) dv (by rw [hval]; exact hup)
  refine ⟨hvt.1.trans hval, ?_, Int.mul_le_mul_of_nonneg_right hlow (Int.le_of_lt hP)⟩
  have dvt := dv.take (m + 1)
  have ev : val 18446744073709551616 (v.take (m + 1)) = val 18446744073709551616 ((v.take (m + 1)).take m) + (v.take (m + 1)).getD m 0 * 18446744073709551616 ^ m := by
    have := val_take_getD 18446744073709551616 (v.take (m + 1)) m
    rw [List.take_of_length_le (show (v.take (m + 1)).length ≤ m + 1 by simp; omega)] at this
    exact this
  have v1 := val_lt (B := 18446744073709551616) (by decide) (dvt.take m)
  rw [List.length_take, Nat.min_eq_left (by simp; omega)] at v1
  rw [hvt.1, hval] at ev
  generalize (v.take (m + 1)).getD m 0 = x at *
  refine Classical.byContradiction fun hx => ?_
  have h6 := Int.mul_le_mul_of_nonneg_right (show x + 1 ≤ 9223372036854775808 by omega) (Int.le_of_lt hW)
  rw [Int.add_mul, Int.one_mul] at h6
  have h7 : t * 18446744073709551616 ^ m ≤ val 18446744073709551616 b := by omega
  have h8 := Int.mul_le_mul_of_nonneg_right h7 (Int.le_of_lt hP)
  have h9 := Int.mul_le_mul_of_nonneg_right h1 (Int.le_of_lt hW)
  have e : t * 18446744073709551616 ^ m * P = t * P * 18446744073709551616 ^ m := by
    rw [Int.mul_assoc, Int.mul_comm (18446744073709551616 ^ m) P, ← Int.mul_assoc]
  omega
theorem rep_word {v : Int} (h : 0 ≤ v ∧ v < 18446744073709551616) : ∃ r, Ev (fun k => whole_trimmed.f k [v]) r ∧ Rep 18446744073709551616 v r := by
  obtain ⟨r, hr, h1, h2, h3⟩ := whole_trimmed_ev (B := 18446744073709551616) (l := [v]) (by simp) (by rw [Dig.cons]; exact ⟨h, Dig.nil⟩)
  exact ⟨r, hr, h1, h2, by rw [h3]; simp [val]⟩
theorem quo_ev {A D : Int} {a b : List Int} (ha : Rep 18446744073709551616 A a) (hb : Rep 18446744073709551616 D b) (hD : 0 < D) (la : a.length ≤ 8388600) (lb : b.length ≤ 8388600) :
    ∃ q r, Ev (fun k => whole_amount_quo.f k a b) (q, r) ∧ Rep 18446744073709551616 (A / D) q ∧ Rep 18446744073709551616 (A % D) r := by
  have hA := ha.nonneg (by decide)
  obtain ⟨K1, h1⟩ := whole_amount_cmp_ev a b (by omega) (by omega) ha.dig hb.dig ha.top hb.top
  rw [ha.val, hb.val] at h1
  by_cases hc : A < D
  · refine ⟨[], a, ⟨K1, fun k hk => ?_⟩, ⟨Dig.nil, trivial, ?_⟩, ?_⟩
    · have e1 : whole_amount_cmp.f k a b = _ := h1 k hk
      show whole_amount_quo.f k a b = _
      rw [whole_amount_quo.f, e1, Option.bind_some, sg_neg (by omega), if_pos (by decide)]
    · rw [Int.ediv_eq_zero_of_lt hA hc]; rfl
    · rw [Int.emod_eq_of_lt hA hc]; exact ha
  · have hsg : ¬ sg (A - D) < 0 := by unfold sg; split <;> (try split) <;> omega
    have hbpos := (hb.pos_iff (by decide)).2 hD
    by_cases h1b : b.length = 1
    · obtain ⟨x, rfl⟩ := List.length_eq_one_iff.1 h1b
      have hx : x = D := by have := hb.val; simpa [val] using this
      have dx := hb.dig.get 0 (by simp)
      have dx' : 0 ≤ x ∧ x < 18446744073709551616 := dx
      obtain ⟨q, ⟨K2, h2⟩, hq⟩ := byLimb_ev a x (by omega) (by omega) ha.dig
      rw [ha.val, hx] at hq
      have hm0 := Int.emod_nonneg A (show x ≠ 0 by omega)
      have hm1 := Int.emod_lt_of_pos A (show 0 < x by omega)
      obtain ⟨r, ⟨K3, h3⟩, hr⟩ := rep_word (v := A % x) ⟨hm0, by omega⟩
      rw [hx] at hr
      refine ⟨q, r, ⟨K1 + K2 + K3, fun k hk => ?_⟩, hq, hr⟩
      have e1 : whole_amount_cmp.f k a [x] = _ := h1 k (by omega)
      have e2 : whole_amount_byLimb.f k a x = _ := h2 k (by omega)
      have e3 : whole_trimmed.f k [A % x] = _ := h3 k (by omega)
      rw [ha.val] at e2
      show whole_amount_quo.f k a [x] = _
      rw [whole_amount_quo.f, e1, Option.bind_some, if_neg hsg, if_pos (by rfl), show rd [x] 0 = x from rfl, e2, Option.bind_some, e3, Option.bind_some]
    · have hlen := len_of_le (by decide) ha.dig hb.dig hb.top (by rw [ha.val, hb.val]; omega)
      have hn2 : 2 ≤ b.length := by omega
      have gb := getD_dig (by decide) hb.dig (b.length - 1)
      have htop : b.getD (b.length - 1) 0 ≠ 0 := by
        have hne : b ≠ [] := by intro e; rw [e] at hn2; simp at hn2
        have := (Top_iff b).1 hb.top hne
        rw [List.getLast_eq_getElem] at this
        rw [List.getD_eq_getElem?_getD, List.getElem?_eq_getElem (by omega), Option.getD_some]
        exact this
      obtain ⟨s, P, Q, hs, hSh, hp1, hp2⟩ := clz (x := b.getD (b.length - 1) 0) (by omega)
      have hP0 := hSh.P0
      obtain ⟨v, ⟨K2, h2⟩, hvl, dv, hvv⟩ := up_ev hSh b lb hb.dig
      obtain ⟨u, ⟨K3, h3⟩, hul, du, huv⟩ := up_ev hSh a la ha.dig
      obtain ⟨n1, n2, n3⟩ := normal rfl hn2 hvl hb.dig dv hP0 ⟨Q, hSh.PQ⟩ hp1 hp2 hvv
      rw [hb.val] at n1 n3
      rw [ha.val] at huv
      have hvtl : (v.take b.length).length = b.length := by rw [List.length_take]; omega
      have hAl := ha.lt (by decide)
      have htopu : val 18446744073709551616 (u.drop (a.length - b.length + 1)) < val 18446744073709551616 (v.take b.length) := by
        rw [n1]
        have e := val_split 18446744073709551616 u (a.length - b.length + 1) (by omega)
        have t0 := val_nonneg (B := 18446744073709551616) (by decide) (du.take (a.length - b.length + 1))
        have hW := pow_pos (B := 18446744073709551616) (by decide) (a.length - b.length + 1)
        refine Classical.byContradiction fun hx => ?_
        have h5 := Int.mul_le_mul_of_nonneg_left (show 18446744073709551616 ^ (b.length - 1) * P ≤ val 18446744073709551616 (u.drop (a.length - b.length + 1)) by omega) (Int.le_of_lt hW)
        rw [← Int.mul_assoc, ← Int.pow_add, show a.length - b.length + 1 + (b.length - 1) = a.length from by omega] at h5
        have h6 := Int.mul_lt_mul_of_pos_right hAl hP0
        omega
      have hq0 : ∀ t, (List.replicate (a.length - b.length + 1) (0 : Int)).getD t 0 = 0 := fun t => by
        simp [List.getD_eq_getElem?_getD, List.getElem?_replicate]; split <;> rfl
      obtain ⟨u2, q2, ⟨K4, h4⟩, w1, w2, w3, w4, w5, w6⟩ := go_run (v.take b.length) b.length hvtl hn2 lb (dv.take _) n2 (a.length - b.length + 1) u (List.replicate (a.length - b.length + 1) 0) (by omega) du (by omega) htopu (Dig.rep (by decide) _) (by simp) (fun t _ => hq0 t)
      rw [val_replicate, Int.zero_mul, Int.add_zero, huv, n1] at w6
      rw [n1] at w5
      have hu0 := val_nonneg (B := 18446744073709551616) (by decide) w2
      obtain ⟨d1, d2⟩ := scale_div (X := A) (a := D) (P := P) (G := val 18446744073709551616 q2) (r := val 18446744073709551616 u2) hP0 hD (by omega) hu0 w5
      obtain ⟨q, ⟨K5, h5⟩, q1, q3, q4⟩ := whole_trimmed_ev (B := 18446744073709551616) (l := q2) (by rw [w4]; simp; omega) w3
      have hvlt := val_lt (B := 18446744073709551616) (by decide) (dv.take b.length)
      rw [hvtl, n1] at hvlt
      have hut := val_take_of_lt (n := b.length) w2 (by omega)
      obtain ⟨r0, ⟨K6, h6⟩, r1, r3, r4⟩ := whole_trimmed_ev (B := 18446744073709551616) (l := u2.take b.length) (by rw [List.length_take]; omega) (w2.take _)
      have hr0l : r0.length ≤ 8388608 := by
        have := rep_len (by decide) (Rep.mk r1 r3 (r4.trans hut.1)) (m := b.length) (by omega)
        omega
      obtain ⟨r, ⟨K7, h7⟩, hr⟩ := down_ev hSh r0 hr0l r1
      rw [r4, hut.1, ← d2] at hr
      refine ⟨q, r, ⟨K1 + K2 + K3 + K4 + K5 + K6 + K7, fun k hk => ?_⟩, ⟨q1, q3, by rw [q4, d1]⟩, hr⟩
      have e1 : whole_amount_cmp.f k a b = _ := h1 k (by omega)
      have e2 : whole_amount_up.f k b s = _ := h2 k (by omega)
      have e3 : whole_amount_up.f k a s = _ := h3 k (by omega)
      have e4 : quo_go k u (v.take b.length) (List.replicate (a.length - b.length + 1) 0) (((a.length - b.length + 1 : Nat) : Int) - 1) = _ := h4 k (by omega)
      have e5 : whole_trimmed.f k q2 = _ := h5 k (by omega)
      have e6 : whole_trimmed.f k (u2.take b.length) = _ := h6 k (by omega)
      have e7 : whole_amount_down.f k r0 s = _ := h7 k (by omega)
      have hs0 := hSh.s0
      have i1 : (a.length : Int) - (b.length : Int) = ((a.length - b.length + 1 : Nat) : Int) - 1 := by omega
      have i2 : (b.length : Int) - 1 = ((b.length - 1 : Nat) : Int) := by omega
      show whole_amount_quo.f k a b = _
      rw [whole_amount_quo.f, e1, Option.bind_some, if_neg hsg, if_neg h1b, if_pos (by omega), i2, rd_getD, hs, Option.bind_some, if_pos (by omega), e2, Option.bind_some, e3, Option.bind_some, if_pos (by omega), i1, e4, Option.bind_some, e5, Option.bind_some, e6, Option.bind_some, e7, Option.bind_some]
theorem borrow_none {V c P X Y : Int} (hV : 0 ≤ V ∧ V < P) (hc : 0 ≤ c ∧ c ≤ 1) (hle : Y ≤ X) (h : V - c * P = X - Y) : V = X - Y := by
  have : c = 0 ∨ c = 1 := by omega
  rcases this with h1 | h1
  · rw [h1] at h; omega
  · rw [h1] at h; omega
theorem w32 (n : Int) (h : -2147483648 ≤ n ∧ n ≤ 2147483647) : wrap32 n = n := by unfold wrap32; omega
theorem subD_step (k : Nat) (a b out : List Int) (c : Int) (i : Nat) (hi : i < a.length) (ha : a.length ≤ 8388608) (ho : out.length = i) (da : Dig 65536 a) (db : Dig 65536 b) (hc : 0 ≤ c ∧ c ≤ 1) :
    tribunalref02_subD.l0 (k + 1) a b out c (i : Int) = tribunalref02_subD.l0 k a b (out ++ [(a.getD i 0 - b.getD i 0 - c) % 65536]) (if a.getD i 0 < b.getD i 0 + c then 1 else 0) ((i + 1 : Nat) : Int) := by
  have ga := getD_dig (by decide) da i
  have gb := getD_dig (by decide) db i
  have hw : wrap64 ((i : Int) + 1) = ((i + 1 : Nat) : Int) := by rw [w64 _ (by omega)]; omega
  rw [tribunalref02_subD.l0, rd_getD, rd_getD, hw, w32 (a.getD i 0) (by omega), w32 (b.getD i 0) (by omega), w32 (a.getD i 0 - c) (by omega), w32 (a.getD i 0 - c - b.getD i 0) (by omega), w32 (a.getD i 0 - c - b.getD i 0 + 65536) (by omega), w32 (a.getD i 0 - c + 65536) (by omega), if_pos (by omega), if_pos (by omega)]
  by_cases h2 : (i : Int) < (b.length : Int)
  · rw [if_pos h2]
    by_cases h3 : a.getD i 0 - c - b.getD i 0 < 0
    · rw [if_pos h3, if_pos (by omega), if_pos (by omega), IntKind.wrap_u16, show (a.getD i 0 - c - b.getD i 0 + 65536) % 65536 = (a.getD i 0 - b.getD i 0 - c) % 65536 from by omega]
    · rw [if_neg h3, if_pos (by omega), if_neg (by omega), IntKind.wrap_u16, show (a.getD i 0 - c - b.getD i 0) % 65536 = (a.getD i 0 - b.getD i 0 - c) % 65536 from by omega]
  · have h0 := getD_ge b i (by omega)
    rw [if_neg h2]
    by_cases h3 : a.getD i 0 - c < 0
    · rw [if_pos h3, if_pos (by omega), if_pos (by omega), IntKind.wrap_u16, show (a.getD i 0 - c + 65536) % 65536 = (a.getD i 0 - b.getD i 0 - c) % 65536 from by omega]
    · rw [if_neg h3, if_pos (by omega), if_neg (by omega), IntKind.wrap_u16, show (a.getD i 0 - c) % 65536 = (a.getD i 0 - b.getD i 0 - c) % 65536 from by omega]
theorem subD_l0 (a b : List Int) (hl : a.length ≤ 8388608) (hb : b.length ≤ a.length) (hle : val 65536 b ≤ val 65536 a) (da : Dig 65536 a) (db : Dig 65536 b) : ∀ (n i : Nat) (out : List Int) (c : Int), i + n = a.length → out.length = i → Dig 65536 out → 0 ≤ c ∧ c ≤ 1 → val 65536 out - c * 65536 ^ i = val 65536 (a.take i) - val 65536 (b.take i) →
    ∃ r, Ev (fun k => tribunalref02_subD.l0 k a b out c (i : Int)) r ∧ Rep 65536 (val 65536 a - val 65536 b) r := by
  intro n
  induction n with
  | zero =>
    intro i out c hi ho hd hc hv
    obtain ⟨r, ⟨K, hr⟩, h1, h2, h3⟩ := tribunalref02_trim_ev (B := 65536) (l := out) (by omega) hd
    refine ⟨r, ⟨K + 1, fun k hk => ?_⟩, h1, h2, ?_⟩
    · obtain ⟨k, rfl⟩ : ∃ j, k = j + 1 := ⟨k - 1, by omega⟩
      have hk' : tribunalref02_trim.f k out = some r := hr k (by omega)
      show tribunalref02_subD.l0 (k + 1) a b out c (i : Int) = some r
      rw [tribunalref02_subD.l0, if_neg (by omega), hk', Option.bind_some]
    · rw [h3]
      rw [List.take_of_length_le (by omega), List.take_of_length_le (by omega)] at hv
      have g1 := val_lt (B := 65536) (by decide) hd
      have g2 := val_nonneg (B := 65536) (by decide) hd
      rw [ho] at g1
      exact borrow_none ⟨g2, g1⟩ hc hle hv
  | succ n ih =>
    intro i out c hi ho hd hc hv
    have hil : i < a.length := by omega
    have ga := getD_dig (by decide) da i
    have gb := getD_dig (by decide) db i
    obtain ⟨r, ⟨K, hr⟩, hq⟩ := ih (i + 1) (out ++ [(a.getD i 0 - b.getD i 0 - c) % 65536]) (if a.getD i 0 < b.getD i 0 + c then 1 else 0) (by omega) (by simp; omega)
      (Dig.append.2 ⟨hd, by rw [Dig.cons]; exact ⟨by omega, Dig.nil⟩⟩) (by split <;> omega)
      (by rw [val_snoc, ho, val_take_getD, val_take_getD, Int.pow_succ]; exact sub_step _ c _ _ _ _ _ _ _ _ (by split <;> omega) hv)
    refine ⟨r, ⟨K + 1, fun k hk => ?_⟩, hq⟩
    obtain ⟨k, rfl⟩ : ∃ j, k = j + 1 := ⟨k - 1, by omega⟩
    show tribunalref02_subD.l0 (k + 1) a b out c (i : Int) = some r
    rw [subD_step k a b out c i hil hl ho da db hc]
    exact hr k (by omega)
theorem subD_ev (a b : List Int) (ha : a.length ≤ 8388608) (hb : b.length ≤ a.length) (hle : val 65536 b ≤ val 65536 a) (da : Dig 65536 a) (db : Dig 65536 b) :
    ∃ r, Ev (fun k => tribunalref02_subD.f k a b) r ∧ Rep 65536 (val 65536 a - val 65536 b) r := by
  obtain ⟨r, ⟨K, hr⟩, hq⟩ := subD_l0 a b ha hb hle da db a.length 0 [] 0 (by omega) rfl Dig.nil (by omega) (by simp [val])
  refine ⟨r, ⟨K, fun k hk => ?_⟩, hq⟩
  show tribunalref02_subD.f k a b = some r
  rw [tribunalref02_subD.f]
  exact hr k hk
theorem mul_step (V c c' s x n X P B : Int) (hs : c' * B + s = x * n + c) (hv : V + c * P = X * n) : (V + s * P) + c' * (P * B) = (X + x * P) * n := by
  have h1 : c' * (P * B) + s * P = (c' * B + s) * P := by rw [Int.add_mul, Int.mul_assoc, Int.mul_comm P B]
  have h2 : x * P * n = x * n * P := by rw [Int.mul_assoc, Int.mul_comm P n, ← Int.mul_assoc]
  rw [hs, Int.add_mul] at h1
  rw [Int.add_mul, h2]
  omega
theorem timesD_step (k : Nat) (a out : List Int) (n c t : Int) (i : Nat) (hi : i < a.length) (hl : a.length ≤ 8388608) (ho : out.length = i) (ht : (c + a.getD i 0 % 4294967296 * n) % 4294967296 = t) :
    tribunalref02_timesD.l0 (k + 1) a n out c (i : Int) = tribunalref02_timesD.l0 k a n (out ++ [t % 65536]) (t / 65536) ((i + 1 : Nat) : Int) := by
  have hwr := step_wrap i a.length hi hl
  rw [tribunalref02_timesD.l0, if_pos (by omega), if_pos (by omega), if_pos (by omega), rd_getD, ht, hwr, IntKind.wrap_u16]
theorem timesD_l0 (a : List Int) (n : Int) (hn : 0 ≤ n ∧ n < 65536) (hl : a.length ≤ 8388608) (da : Dig 65536 a) : ∀ (m i : Nat) (out : List Int) (c : Int), i + m = a.length → out.length = i → Dig 65536 out → 0 ≤ c ∧ c < 65536 → val 65536 out + c * 65536 ^ i = val 65536 (a.take i) * n →
    ∃ r, Ev (fun k => tribunalref02_timesD.l0 k a n out c (i : Int)) r ∧ Rep 65536 (val 65536 a * n) r := by
  intro m
  induction m with
  | zero =>
    intro i out c hi ho hd hc hv
    obtain ⟨r, ⟨K, hr⟩, h1, h2, h3⟩ := tribunalref02_trim_ev (B := 65536) (l := out ++ [c]) (by simp; omega) (Dig.append.2 ⟨hd, by rw [Dig.cons]; exact ⟨hc, Dig.nil⟩⟩)
    refine ⟨r, ⟨K + 1, fun k hk => ?_⟩, h1, h2, ?_⟩
    · obtain ⟨k, rfl⟩ : ∃ j, k = j + 1 := ⟨k - 1, by omega⟩
      have hk' : tribunalref02_trim.f k (out ++ [c]) = some r := hr k (by omega)
      have hw : IntKind.u16.wrap c = c := by rw [IntKind.wrap_u16]; omega
      show tribunalref02_timesD.l0 (k + 1) a n out c (i : Int) = some r
      rw [tribunalref02_timesD.l0, if_neg (by omega), if_pos (by omega), hw, hk', Option.bind_some]
    · rw [h3, val_snoc, ho, hv, show i = a.length from by omega, List.take_length]
  | succ m ih =>
    intro i out c hi ho hd hc hv
    have hil : i < a.length := by omega
    have ga := getD_dig (by decide) da i
    have hb := mul_bound (M := 65535) (x := a.getD i 0) (y := n) (by omega) (by omega)
    have ht : (c + a.getD i 0 % 4294967296 * n) % 4294967296 = a.getD i 0 * n + c := by
      rw [Int.emod_eq_of_lt ga.1 (by omega)]
      generalize a.getD i 0 * n = p at *
      omega
    obtain ⟨r, ⟨K, hr⟩, hq⟩ := ih (i + 1) (out ++ [(a.getD i 0 * n + c) % 65536]) ((a.getD i 0 * n + c) / 65536) (by omega) (by simp; omega)
      (Dig.append.2 ⟨hd, by rw [Dig.cons]; exact ⟨by omega, Dig.nil⟩⟩) (by generalize a.getD i 0 * n = p at *; omega)
      (by rw [val_snoc, ho, val_take_getD, Int.pow_succ]; exact mul_step _ c _ _ _ _ _ _ _ (by omega) hv)
    refine ⟨r, ⟨K + 1, fun k hk => ?_⟩, hq⟩
    obtain ⟨k, rfl⟩ : ∃ j, k = j + 1 := ⟨k - 1, by omega⟩
    show tribunalref02_timesD.l0 (k + 1) a n out c (i : Int) = some r
    rw [timesD_step k a out n c _ i hil hl ho ht]
    exact hr k (by omega)
theorem timesD_ev (a : List Int) (n : Int) (hn : 0 ≤ n ∧ n < 65536) (hl : a.length ≤ 8388608) (da : Dig 65536 a) :
    ∃ r, Ev (fun k => tribunalref02_timesD.f k a n) r ∧ Rep 65536 (val 65536 a * n) r := by
  obtain ⟨r, ⟨K, hr⟩, hq⟩ := timesD_l0 a n hn hl da a.length 0 [] 0 (by omega) rfl Dig.nil (by omega) (by simp [val])
  refine ⟨r, ⟨K, fun k hk => ?_⟩, hq⟩
  show tribunalref02_timesD.f k a n = some r
  rw [tribunalref02_timesD.f]
  exact hr k hk
theorem times_len {A n : Int} {r : List Int} {L : Nat} (h : Rep 65536 (A * n) r) (hA : 0 ≤ A ∧ A < 65536 ^ L) (hn : 0 ≤ n ∧ n < 65536) : r.length ≤ L + 1 := by
  refine rep_len (by decide) h ?_
  rw [Int.pow_succ]
  have h1 := Int.mul_le_mul_of_nonneg_left (show n ≤ 65535 by omega) hA.1
  omega
theorem sg_le {n : Int} : sg n ≤ 0 ↔ n ≤ 0 := by unfold sg; split <;> (try split) <;> omega
theorem digit_l0 {A D : Int} {a b : List Int} (ha : Rep 65536 A a) (hb : Rep 65536 D b) (hD : 0 < D) (la : a.length ≤ 8388600) (lb : b.length ≤ 8388600) : ∀ (m : Nat) (lo hi : Int), (hi - lo).toNat ≤ m → 0 ≤ lo → lo ≤ hi → hi ≤ 65535 → D * lo ≤ A → A < D * (hi + 1) →
    ∃ r, Ev (fun k => tribunalref02_digit.l0 k a b lo hi) (A / D, r) ∧ Rep 65536 (A % D) r := by
  have hDl := hb.lt (by decide)
  have hA := ha.nonneg (by decide)
  intro m
  induction m with
  | zero =>
    intro lo hi hm h0 h1 h2 h3 h4
    have hlh : lo = hi := by omega
    subst hlh
    obtain ⟨t, ⟨K1, e1⟩, ht⟩ := timesD_ev b lo (by omega) (by omega) hb.dig
    rw [hb.val] at ht
    have hlt := times_len ht ⟨Int.le_of_lt hD, hDl⟩ (by omega)
    have hlen := len_of_le (by decide) ha.dig ht.dig ht.top (by rw [ha.val, ht.val]; exact h3)
    obtain ⟨r, ⟨K2, e2⟩, hr⟩ := subD_ev a t (by omega) hlen (by rw [ha.val, ht.val]; exact h3) ha.dig ht.dig
    rw [ha.val, ht.val] at hr
    have hdiv : A / D = lo := div_eq hD (by rw [Int.mul_comm]; exact h3) (by rw [Int.mul_comm]; exact h4)
    have hmod : A % D = A - D * lo := by
      have := Int.mul_ediv_add_emod A D
      rw [hdiv] at this; omega
    refine ⟨r, ⟨K1 + K2 + 1, fun k hk => ?_⟩, by rw [hmod]; exact hr⟩
    obtain ⟨k, rfl⟩ : ∃ j, k = j + 1 := ⟨k - 1, by omega⟩
    have g1 : tribunalref02_timesD.f k b lo = _ := e1 k (by omega)
    have g2 : tribunalref02_subD.f k a t = _ := e2 k (by omega)
    have hw : IntKind.u16.wrap lo = lo := by rw [IntKind.wrap_u16]; omega
    show tribunalref02_digit.l0 (k + 1) a b lo lo = _
    rw [tribunalref02_digit.l0, if_neg (by omega), g1, Option.bind_some, g2, Option.bind_some, hw, hdiv]
  | succ m ih =>
    intro lo hi hm h0 h1 h2 h3 h4
    by_cases hlt : lo < hi
    · have hmid : (lo + hi + 1) % 4294967296 / 2 = (lo + hi + 1) / 2 := by omega
      have m1 : lo < (lo + hi + 1) / 2 := by omega
      have m2 : (lo + hi + 1) / 2 ≤ hi := by omega
      generalize hmd : (lo + hi + 1) / 2 = mid at *
      have hm1 : (mid - 1) % 4294967296 = mid - 1 := by omega
      obtain ⟨t, ⟨K1, e1⟩, ht⟩ := timesD_ev b mid (by omega) (by omega) hb.dig
      rw [hb.val] at ht
      have htl := times_len ht ⟨Int.le_of_lt hD, hDl⟩ (by omega)
      obtain ⟨K2, e2⟩ := tribunalref02_cmpD_ev t a (by omega) (by omega) ht.dig ha.dig ht.top ha.top
      rw [ht.val, ha.val] at e2
      by_cases hc : D * mid ≤ A
      · obtain ⟨r, ⟨K3, e3⟩, hr⟩ := ih mid hi (by omega) (by omega) m2 h2 hc h4
        refine ⟨r, ⟨K1 + K2 + K3 + 1, fun k hk => ?_⟩, hr⟩
        obtain ⟨k, rfl⟩ : ∃ j, k = j + 1 := ⟨k - 1, by omega⟩
        have g1 : tribunalref02_timesD.f k b mid = _ := e1 k (by omega)
        have g2 : tribunalref02_cmpD.f k t a = _ := e2 k (by omega)
        show tribunalref02_digit.l0 (k + 1) a b lo hi = _
        rw [tribunalref02_digit.l0, if_pos hlt, hmid, g1, Option.bind_some, g2, Option.bind_some, if_pos (sg_le.2 (by omega))]
        exact e3 k (by omega)
      · obtain ⟨r, ⟨K3, e3⟩, hr⟩ := ih lo (mid - 1) (by omega) h0 (by omega) (by omega) h3 (by rw [show mid - 1 + 1 = mid from by omega]; omega)
        refine ⟨r, ⟨K1 + K2 + K3 + 1, fun k hk => ?_⟩, hr⟩
        obtain ⟨k, rfl⟩ : ∃ j, k = j + 1 := ⟨k - 1, by omega⟩
        have g1 : tribunalref02_timesD.f k b mid = _ := e1 k (by omega)
        have g2 : tribunalref02_cmpD.f k t a = _ := e2 k (by omega)
        show tribunalref02_digit.l0 (k + 1) a b lo hi = _
        rw [tribunalref02_digit.l0, if_pos hlt, hmid, g1, Option.bind_some, g2, Option.bind_some, if_neg (fun x => hc (by have := sg_le.1 x; omega)), hm1]
        exact e3 k (by omega)
    · exact ih lo hi (by omega) h0 h1 h2 h3 h4
theorem digit_ev {A D : Int} {a b : List Int} (ha : Rep 65536 A a) (hb : Rep 65536 D b) (hD : 0 < D) (la : a.length ≤ 8388600) (lb : b.length ≤ 8388600) (hlt : A < D * 65536) :
    ∃ r, Ev (fun k => tribunalref02_digit.f k a b) (A / D, r) ∧ Rep 65536 (A % D) r := by
  have hA := ha.nonneg (by decide)
  obtain ⟨r, ⟨K, hr⟩, hq⟩ := digit_l0 ha hb hD la lb 65535 0 65535 (by omega) (by omega) (by omega) (by omega) (by omega) (by omega)
  refine ⟨r, ⟨K, fun k hk => ?_⟩, hq⟩
  show tribunalref02_digit.f k a b = _
  rw [tribunalref02_digit.f]
  exact hr k hk
theorem divD_l0 {D : Int} {b : List Int} (a : List Int) (hb : Rep 65536 D b) (hD : 0 < D) (hl : a.length ≤ 8388608) (lb : b.length ≤ 8388590) (da : Dig 65536 a) : ∀ (n : Nat) (q r : List Int) (R i : Int), n ≤ a.length → i = (n : Int) - 1 → q.length = a.length → Dig 65536 q → (∀ t, t < n → q.getD t 0 = 0) → Rep 65536 R r → R < D → val 65536 q * D + R * 65536 ^ n + val 65536 (a.take n) = val 65536 a →
    ∃ q2 r2, Ev (fun k => tribunalref02_divD.l0 k a b q r i) (q2, r2) ∧ Rep 65536 (val 65536 a / D) q2 ∧ Rep 65536 (val 65536 a % D) r2 := by
  have hDl := hb.lt (by decide)
  intro n
  induction n with
  | zero =>
    intro q r R i hn hi hq dq hz hr hR hv
    have hR0 := hr.nonneg (by decide)
    obtain ⟨q2, ⟨K, hK⟩, h1, h2, h3⟩ := tribunalref02_trim_ev (B := 65536) (l := q) (by omega) dq
    have hv' : val 65536 q * D + R = val 65536 a := by rw [← hv]; simp [val]
    have hdiv : val 65536 a / D = val 65536 q := div_eq hD (by omega) (by rw [Int.add_mul, Int.one_mul]; omega)
    have hmod : val 65536 a % D = R := by
      have h4 := Int.mul_ediv_add_emod (val 65536 a) D
      rw [hdiv, Int.mul_comm] at h4
      omega
    refine ⟨q2, r, ⟨K + 1, fun k hk => ?_⟩, ⟨h1, h2, by rw [h3, hdiv]⟩, by rw [hmod]; exact hr⟩
    obtain ⟨k, rfl⟩ : ∃ j, k = j + 1 := ⟨k - 1, by omega⟩
    have hk' : tribunalref02_trim.f k q = some q2 := hK k (by omega)
    show tribunalref02_divD.l0 (k + 1) a b q r i = _
    rw [tribunalref02_divD.l0, if_neg (by omega), hk', Option.bind_some]
  | succ n ih =>
    intro q r R i hn hi hq dq hz hr hR hv
    have hR0 := hr.nonneg (by decide)
    have hi' : i = (n : Int) := by omega
    subst hi'
    have ga := getD_dig (by decide) da n
    have hrl : r.length ≤ b.length := rep_len (by decide) hr (by omega)
    have dr : Dig 65536 (a.getD n 0 :: r) := Dig.cons.2 ⟨ga, hr.dig⟩
    obtain ⟨t, ⟨K1, e1⟩, h1, h2, h3⟩ := tribunalref02_trim_ev (B := 65536) (l := a.getD n 0 :: r) (by simp; omega) dr
    have ht : Rep 65536 (a.getD n 0 + 65536 * R) t := ⟨h1, h2, by rw [h3]; show a.getD n 0 + 65536 * val 65536 r = _; rw [hr.val]⟩
    have htl : t.length ≤ b.length + 1 := rep_len (by decide) ht (by rw [Int.pow_succ]; omega)
    obtain ⟨r', ⟨K2, e2⟩, hr'⟩ := digit_ev ht hb hD (by omega) (by omega) (by omega)
    have g1 := Int.mul_ediv_add_emod (a.getD n 0 + 65536 * R) D
    have g2 := Int.emod_nonneg (a.getD n 0 + 65536 * R) (Int.ne_of_gt hD)
    have g3 := Int.emod_lt_of_pos (a.getD n 0 + 65536 * R) hD
    have g4 : 0 ≤ (a.getD n 0 + 65536 * R) / D := Int.ediv_nonneg (by omega) (by omega)
    have g5 : (a.getD n 0 + 65536 * R) / D < 65536 := Int.ediv_lt_of_lt_mul hD (by omega)
    generalize (a.getD n 0 + 65536 * R) / D = g at *
    generalize hR' : (a.getD n 0 + 65536 * R) % D = R' at *
    clear hR'
    obtain ⟨q2, r2, ⟨K3, e3⟩, hq2⟩ := ih (q.set n g) r' R' ((n : Int) - 1) (by omega) rfl (by simp [hq]) (dq.set n ⟨g4, g5⟩) (fun t ht => by rw [getD_set_ne _ _ _ _ (by omega)]; exact hz t (by omega)) hr' g3 (by
      rw [← hv, val_set_getD _ _ _ _ (by omega), hz n (by omega), val_take_getD, Int.sub_zero, Int.pow_succ, Int.add_mul]
      generalize (65536 : Int) ^ n = W
      have x1 : g * W * D = D * g * W := by rw [Int.mul_comm (g * W), ← Int.mul_assoc]
      have x2 : R * (W * 65536) = 65536 * R * W := by rw [Int.mul_comm W, ← Int.mul_assoc, Int.mul_comm R]
      have x3 : (D * g + R') * W = (a.getD n 0 + 65536 * R) * W := by rw [g1]
      rw [Int.add_mul, Int.add_mul] at x3
      rw [x1, x2]
      omega)
    refine ⟨q2, r2, ⟨K1 + K2 + K3 + 1, fun k hk => ?_⟩, hq2⟩
    obtain ⟨k, rfl⟩ : ∃ j, k = j + 1 := ⟨k - 1, by omega⟩
    have f1 : tribunalref02_trim.f k ([a.getD n 0] ++ r) = some t := e1 k (by omega)
    have f2 : tribunalref02_digit.f k t b = _ := e2 k (by omega)
    have f3 := e3 k (by omega)
    show tribunalref02_divD.l0 (k + 1) a b q r (n : Int) = _
    rw [tribunalref02_divD.l0, if_pos (by omega), if_pos (by omega), if_pos (by omega), Option.bind_some, rd_getD, if_pos (by simp; omega), f1, Option.bind_some, f2, Option.bind_some, if_pos (by omega), Int.toNat_natCast, w64 _ (by omega)]
    exact f3
theorem divD_ev {A D : Int} {a b : List Int} (ha : Rep 65536 A a) (hb : Rep 65536 D b) (hD : 0 < D) (la : a.length ≤ 8388608) (lb : b.length ≤ 8388590) :
    ∃ q r, Ev (fun k => tribunalref02_divD.f k a b) (q, r) ∧ Rep 65536 (A / D) q ∧ Rep 65536 (A % D) r := by
  have hz : ∀ t, (List.replicate a.length (0 : Int)).getD t 0 = 0 := fun t => by
    simp [List.getD_eq_getElem?_getD, List.getElem?_replicate]; split <;> rfl
  obtain ⟨q2, r2, ⟨K, hK⟩, h1, h2⟩ := divD_l0 a hb hD la lb ha.dig a.length (List.replicate a.length 0) [] 0 ((a.length : Int) - 1) (Nat.le_refl _) rfl (by simp) (Dig.rep (by decide) _) (fun t _ => hz t) ⟨Dig.nil, trivial, rfl⟩ hD (by rw [val_replicate, List.take_length]; simp)
  rw [ha.val] at h1 h2
  refine ⟨q2, r2, ⟨K, fun k hk => ?_⟩, h1, h2⟩
  show tribunalref02_divD.f k a b = _
  rw [tribunalref02_divD.f, if_pos (by omega), Int.toNat_natCast, if_pos (by omega), w64 _ (by omega)]
  exact hK k hk
theorem Make_ev (s : Bool) (l : List Int) (hl : l.length < 9223372036854775807) (hd : Dig 65536 l) : ∃ r, Ev (fun k => tribunalref02_Make.f k s l) (s && decide (0 < r.length), r) ∧ Dig 65536 r ∧ Top r ∧ val 65536 r = val 65536 l := by
  obtain ⟨r, ⟨K, hr⟩, h⟩ := tribunalref02_trim_ev (B := 65536) (l := l) hl hd
  refine ⟨r, ⟨K, fun k hk => ?_⟩, h⟩
  have hk' : tribunalref02_trim.f k l = some r := hr k hk
  show tribunalref02_Make.f k s l = _
  simp only [tribunalref02_Make.f, hk', Option.bind_some]
  cases s <;> simp
def qn (n m : Int) : Int := if (decide (n < 0) != decide (m < 0)) = true then -((n.natAbs : Int) / (m.natAbs : Int)) else (n.natAbs : Int) / (m.natAbs : Int)
def rn (n m : Int) : Int := if decide (n < 0) = true then -((n.natAbs : Int) % (m.natAbs : Int)) else (n.natAbs : Int) % (m.natAbs : Int)
theorem cut_num {n m : Int} {s t : Bool} {a b : List Int} (ha : Num 18446744073709551616 n s a) (hb : Num 18446744073709551616 m t b) (hm : m ≠ 0) (la : a.length ≤ 8388600) (lb : b.length ≤ 8388600) :
    ∃ u q v r, Ev (fun k => whole_number_cut.f k a s b t) (q, u, r, v) ∧ Num 18446744073709551616 (qn n m) u q ∧ Num 18446744073709551616 (rn n m) v r := by
  obtain ⟨q, r, ⟨K, hK⟩, hq, hr⟩ := quo_ev ha.rep hb.rep (by omega) la lb
  refine ⟨_, q, _, r, ⟨K, fun k hk => ?_⟩, Num.of_rep' (by decide) hq (s != t) (by rw [ha.sign, hb.sign]; rfl), Num.of_rep' (by decide) hr s (by rw [ha.sign]; rfl)⟩
  have e : whole_amount_quo.f k a b = _ := hK k hk
  show whole_number_cut.f k a s b t = _
  rw [whole_number_cut.f, e, Option.bind_some, signed_eq, Option.bind_some, signed_eq, Option.bind_some]
theorem rMake_rep {v : Int} {l : List Int} (h : Rep 65536 v l) (hl : l.length ≤ 8388608) (b : Bool) {n : Int} (hn : n = if b then -v else v) : ∃ u r, Ev (fun k => tribunalref02_Make.f k b l) (u, r) ∧ Num 65536 n u r := by
  obtain ⟨r, hE, h1, h2, h3⟩ := Make_ev b l (by omega) h.dig
  exact ⟨_, r, hE, Num.of_rep' (by decide) ⟨h1, h2, h3.trans h.val⟩ b hn⟩
theorem div_small {A D : Int} {L : Nat} (hA : 0 ≤ A ∧ A < 65536 ^ L) (hD : 0 < D) : A / D < 65536 ^ L ∧ A % D < 65536 ^ L := by
  have h1 := Int.ediv_le_self D hA.1
  have h2 := Int.mul_ediv_add_emod A D
  have h3 : 0 ≤ A / D := Int.ediv_nonneg hA.1 (Int.le_of_lt hD)
  have h4 := Int.mul_nonneg (Int.le_of_lt hD) h3
  exact ⟨by omega, by omega⟩
theorem Cut_num {n m : Int} {s t : Bool} {a b : List Int} (ha : Num 65536 n s a) (hb : Num 65536 m t b) (hm : m ≠ 0) (la : a.length ≤ 8388590) (lb : b.length ≤ 8388590) :
    ∃ u q v r, Ev (fun k => tribunalref02_Cut.f k s a t b) (u, q, v, r) ∧ Num 65536 (qn n m) u q ∧ Num 65536 (rn n m) v r ∧ q.length ≤ a.length ∧ r.length ≤ a.length := by
  obtain ⟨q0, r0, ⟨K1, h1⟩, hq, hr⟩ := divD_ev ha.rep hb.rep (by omega) (by omega) lb
  have hA0 := ha.rep.nonneg (by decide)
  have hA1 := ha.rep.lt (by decide)
  obtain ⟨d1, d2⟩ := div_small (D := (m.natAbs : Int)) ⟨hA0, hA1⟩ (by omega)
  have lq := rep_len (by decide) hq d1
  have lr := rep_len (by decide) hr d2
  obtain ⟨u, q, ⟨K2, h2⟩, N1⟩ := rMake_rep hq (by omega) (s != t) (n := qn n m) (by rw [ha.sign, hb.sign]; rfl)
  obtain ⟨v, r, ⟨K3, h3⟩, N2⟩ := rMake_rep hr (by omega) s (n := rn n m) (by rw [ha.sign]; rfl)
  have eq1 : ((qn n m).natAbs : Int) = (n.natAbs : Int) / (m.natAbs : Int) := by
    have : 0 ≤ (n.natAbs : Int) / (m.natAbs : Int) := Int.ediv_nonneg (by omega) (by omega)
    unfold qn; split <;> omega
  have er1 : ((rn n m).natAbs : Int) = (n.natAbs : Int) % (m.natAbs : Int) := by
    have : 0 ≤ (n.natAbs : Int) % (m.natAbs : Int) := Int.emod_nonneg _ (by omega)
    unfold rn; split <;> omega
  refine ⟨u, q, v, r, ⟨K1 + K2 + K3, fun k hk => ?_⟩, N1, N2, rep_len (by decide) N1.rep (by rw [eq1]; exact d1), rep_len (by decide) N2.rep (by rw [er1]; exact d2)⟩
  have e1 : tribunalref02_divD.f k a b = _ := h1 k (by omega)
  have e2 : tribunalref02_Make.f k (s != t) q0 = _ := h2 k (by omega)
  have e3 : tribunalref02_Make.f k s r0 = _ := h3 k (by omega)
  show tribunalref02_Cut.f k s a t b = _
  rw [tribunalref02_Cut.f, e1, Option.bind_some, e2, Option.bind_some, e3, Option.bind_some]
theorem outs {n : Int} {s t : Bool} {l d : List Int} (h : Num 18446744073709551616 n s l) (g : Num 65536 n t d) (hd : d.length ≤ 8388608) :
    (l.length > 4096 ∧ Ev (fun k => tribunalref02_Out.f k t d) (false, [], 5)) ∨ (l.length ≤ 4096 ∧ whole_number_out.f l s = some (s, l) ∧ Ev (fun k => tribunalref02_Out.f k t d) (s, l, 0)) := by
  have hl : l.length > 4096 ↔ d.length > 16384 := by
    obtain ⟨_, _, _, h⟩ := len_le h.rep.dig h.rep.top g.rep.dig g.rep.top (h.rep.val.trans g.rep.val.symm)
    exact h
  by_cases hc : l.length > 4096
  · refine .inl ⟨hc, ⟨0, fun k _ => ?_⟩⟩
    show tribunalref02_Out.f k t d = _
    rw [tribunalref02_Out.f, if_pos (by have := hl.1 hc; omega)]
  · obtain ⟨r, ⟨K, hr⟩, h1, h2, h3, _⟩ := To_ev d t hd g.rep.dig g.rep.top
    have e : r = l := h.rep.uniq (by decide) ⟨h1, h2, h3.trans g.rep.val⟩ |>.symm
    have es : t = s := g.sign.trans h.sign.symm
    subst e; subst es
    refine .inr ⟨by omega, ?_, ⟨K, fun k hk => ?_⟩⟩
    · rw [whole_number_out.f, api_Nat_uint64.f, if_pos (by omega), Option.bind_some]
    · have hk' : tribunalref02_To.f k t d = some (t, r) := hr k hk
      have : ¬ d.length > 16384 := fun x => hc (hl.2 x)
      show tribunalref02_Out.f k t d = _
      rw [tribunalref02_Out.f, if_neg (by omega), hk', Option.bind_some]
theorem long_eq (l : List Int) (s : Bool) : whole_number_long.f l s = some (decide ((l.length : Int) > 4096)) := rfl
theorem pair_same {n m : Int} {s t u v : Bool} {q r d e : List Int} (h1 : Num 18446744073709551616 n s q) (h2 : Num 18446744073709551616 m t r) (g1 : Num 65536 n u d) (g2 : Num 65536 m v e) (hd : d.length ≤ 8388608) (he : e.length ≤ 8388608) :
    ∃ x, Ev (fun k => whole_pair.f k q s r t) x ∧ Ev (fun k => tribunalref02_two.f k u d v e) x ∧ x.2.1.length ≤ 8388608 ∧ x.2.2.2.1.length ≤ 8388608 := by
  rcases outs h1 g1 hd with ⟨c1, ⟨K1, o1⟩⟩ | ⟨c1, w1, ⟨K1, o1⟩⟩
  · obtain ⟨K2, y, o2⟩ : ∃ (K2 : Nat) (y : Bool × List Int × Int), ∀ k, K2 ≤ k → tribunalref02_Out.f k v e = some y := by
      rcases outs h2 g2 he with ⟨_, ⟨K2, o2⟩⟩ | ⟨_, _, ⟨K2, o2⟩⟩
      · exact ⟨K2, _, o2⟩
      · exact ⟨K2, _, o2⟩
    refine ⟨(false, [], false, [], 5), ⟨1, fun k hk => ?_⟩, ⟨K1 + K2, fun k hk => ?_⟩, by simp, by simp⟩
    · obtain ⟨k, rfl⟩ : ∃ j, k = j + 1 := ⟨k - 1, by omega⟩
      show whole_pair.f (k + 1) q s r t = _
      rw [whole_pair.f, long_eq, Option.bind_some, if_pos (by simp; omega), whole_pair.j0, if_pos rfl]
    · have e1 : tribunalref02_Out.f k u d = _ := o1 k (by omega)
      have e2 := o2 k (by omega)
      show tribunalref02_two.f k u d v e = _
      rw [tribunalref02_two.f, e1, Option.bind_some, e2, Option.bind_some, if_neg (by decide)]
  · rcases outs h2 g2 he with ⟨c2, ⟨K2, o2⟩⟩ | ⟨c2, w2, ⟨K2, o2⟩⟩
    · refine ⟨(false, [], false, [], 5), ⟨1, fun k hk => ?_⟩, ⟨K1 + K2, fun k hk => ?_⟩, by simp, by simp⟩
      · obtain ⟨k, rfl⟩ : ∃ j, k = j + 1 := ⟨k - 1, by omega⟩
        show whole_pair.f (k + 1) q s r t = _
        rw [whole_pair.f, long_eq, Option.bind_some, if_neg (by simp; omega), long_eq, Option.bind_some, whole_pair.j0, if_pos (by simp; omega)]
      · have e1 : tribunalref02_Out.f k u d = _ := o1 k (by omega)
        have e2 : tribunalref02_Out.f k v e = _ := o2 k (by omega)
        show tribunalref02_two.f k u d v e = _
        rw [tribunalref02_two.f, e1, Option.bind_some, e2, Option.bind_some, if_pos rfl, if_neg (by decide)]
    · refine ⟨(s, q, t, r, 0), ⟨1, fun k hk => ?_⟩, ⟨K1 + K2, fun k hk => ?_⟩, by show q.length ≤ _; omega, by show r.length ≤ _; omega⟩
      · obtain ⟨k, rfl⟩ : ∃ j, k = j + 1 := ⟨k - 1, by omega⟩
        show whole_pair.f (k + 1) q s r t = _
        rw [whole_pair.f, long_eq, Option.bind_some, if_neg (by simp; omega), long_eq, Option.bind_some, whole_pair.j0, if_neg (by simp; omega), w1, Option.bind_some, w2, Option.bind_some]
      · have e1 : tribunalref02_Out.f k u d = _ := o1 k (by omega)
        have e2 : tribunalref02_Out.f k v e = _ := o2 k (by omega)
        show tribunalref02_two.f k u d v e = _
        rw [tribunalref02_two.f, e1, Option.bind_some, e2, Option.bind_some, if_pos rfl, if_pos rfl]
theorem null_eq (l : List Int) : whole_amount_null.f l = some (decide (l = [])) := by
  rw [whole_amount_null.f]
  congr 1
  cases l <;> simp <;> omega
theorem num_nil {B n : Int} (hB : 0 < B) {s : Bool} {a : List Int} (h : Num B n s a) : a = [] ↔ n = 0 := by
  rw [h.rep.nil_iff hB]; omega
end Go.Proofs.YtodhkpdcpneeeaaDoor.PurePQv
namespace Go.Proofs.YtodhkpdcpneeeaaDoor.PurePQv
set_option linter.unusedVariables false
set_option linter.unusedSimpArgs false
open Go.RowKit Go.Proofs.YtodhkpdcpneeeaaDoorW.PrintWords Go.Proofs.YtodhkpdcpneeeaaDoorW.PrintLast Go.Proofs.YtodhkpdcpneeeaaDoorW.PrintMore Go.Proofs.YtodhkpdcpneeeaaDoor.PQv Go.Proofs.YtodhkpdcpneeeaaDoor Go.Proofs.YtodhkpdcpneeeaaDoor.Mine Big
theorem Quo_ev (s : Bool) (l : List Int) (hl : l.length ≤ 1048576) (hd : Dig 18446744073709551616 l) (t : Bool) (m : List Int) (hm : m.length ≤ 1048576) (hdm : Dig 18446744073709551616 m) :
    ∃ x, Ev (fun k => whole_Quo.f k s l t m) x ∧ Ev (fun k => tribunalref02_Quo.f k s l t m) x ∧ x.2.1.length ≤ 8388608 ∧ x.2.2.2.1.length ≤ 8388608 := by
  obtain ⟨n1, s1, a1, d1, ⟨K1, e1⟩, ⟨J1, f1⟩, N1, M1, l1, k1⟩ := arg_num s l hl hd
  obtain ⟨n2, s2, a2, d2, ⟨K2, e2⟩, ⟨J2, f2⟩, N2, M2, l2, k2⟩ := arg_num t m hm hdm
  have i1 := num_nil (by decide) N2
  have i2 := num_nil (by decide) M2
  by_cases hz : n2 = 0
  · refine ⟨(false, [], false, [], 11), ⟨K2, fun k hk => ?_⟩, ⟨J2, fun k hk => ?_⟩, by simp, by simp⟩
    · have g2 : whole_of.f k t m = _ := e2 k hk
      show whole_Quo.f k s l t m = _
      rw [whole_Quo.f, g2, Option.bind_some, null_eq, Option.bind_some, if_pos (decide_eq_true (i1.2 hz))]
    · have g2 : tribunalref02_From.f k t m = _ := f2 k hk
      show tribunalref02_Quo.f k s l t m = _
      rw [tribunalref02_Quo.f, g2, Option.bind_some, if_pos (by rw [i2.2 hz]; rfl)]
  · obtain ⟨u, q, v, r, ⟨K3, e3⟩, N3, N4⟩ := cut_num N1 N2 hz (by omega) (by omega)
    obtain ⟨u', q', v', r', ⟨J3, f3⟩, M3, M4, x1, x2⟩ := Cut_num M1 M2 hz (by omega) (by omega)
    obtain ⟨x, ⟨K4, e4⟩, ⟨J4, f4⟩, y1, y2⟩ := pair_same N3 N4 M3 M4 (by omega) (by omega)
    refine ⟨x, ⟨K1 + K2 + K3 + K4, fun k hk => ?_⟩, ⟨J1 + J2 + J3 + J4, fun k hk => ?_⟩, y1, y2⟩
    · have g1 : whole_of.f k s l = _ := e1 k (by omega)
      have g2 : whole_of.f k t m = _ := e2 k (by omega)
      have g3 : whole_number_cut.f k a1 s1 a2 s2 = _ := e3 k (by omega)
      have g4 : whole_pair.f k q u r v = _ := e4 k (by omega)
      show whole_Quo.f k s l t m = _
      rw [whole_Quo.f, g2, Option.bind_some, null_eq, Option.bind_some, if_neg (by simpa using fun h => hz (i1.1 h)), g1, Option.bind_some, g3, Option.bind_some, g4, Option.bind_some]
    · have g1 : tribunalref02_From.f k s l = _ := f1 k (by omega)
      have g2 : tribunalref02_From.f k t m = _ := f2 k (by omega)
      have g3 : tribunalref02_Cut.f k s1 d1 s2 d2 = _ := f3 k (by omega)
      have g4 : tribunalref02_two.f k u' q' v' r' = _ := f4 k (by omega)
      have hne : ¬ (d2.length : Int) = 0 := by
        intro h
        have : d2 = [] := List.length_eq_zero_iff.1 (by omega)
        exact hz (i2.1 this)
      show tribunalref02_Quo.f k s l t m = _
      rw [tribunalref02_Quo.f, g2, Option.bind_some, if_neg hne, g1, Option.bind_some, g3, Option.bind_some, g4, Option.bind_some]
end Go.Proofs.YtodhkpdcpneeeaaDoor.PurePQv
namespace Go.Proofs.YtodhkpdcpneeeaaDoor.Pure
open Go.RowKit Go.Proofs.YtodhkpdcpneeeaaDoorW.PrintWords Go.Proofs.YtodhkpdcpneeeaaDoorW.PrintLast Go.Proofs.YtodhkpdcpneeeaaDoorW.PrintMore Go.Proofs.YtodhkpdcpneeeaaDoor.PQv Go.Proofs.YtodhkpdcpneeeaaDoor Go.Proofs.YtodhkpdcpneeeaaDoor.Mine Big PurePQv
theorem wholeQuos_pure (a : Bool) (x : List Int) (hx : x.length ≤ 1048576) (wx : ∀ z ∈ x, (Lit.int .u64 z).wf = true) (b : Bool) (y : List Int) (hy : y.length ≤ 1048576) (wy : ∀ z ∈ y, (Lit.int .u64 z).wf = true) : ∃ k, PQv.tribunallaw02_WholeQuos.f k a x b y = some true := by
  obtain ⟨⟨c, l, d, m, e⟩, ⟨K1, e1⟩, ⟨K2, e2⟩, hl, hm⟩ := Quo_ev a x hx (dig_of_wf wx) b y hy (dig_of_wf wy)
  obtain ⟨K3, e3⟩ := Same_ev c l hl
  obtain ⟨K4, e4⟩ := Same_ev d m hm
  obtain ⟨K5, e5⟩ := awake_ev
  obtain ⟨k, h1, h2, h3, h4, h5⟩ : ∃ k, K1 ≤ k ∧ K2 ≤ k ∧ K3 ≤ k ∧ K4 ≤ k ∧ K5 ≤ k := ⟨K1 + K2 + K3 + K4 + K5, by omega, by omega, by omega, by omega, by omega⟩
  refine ⟨k, ?_⟩
  have g1 : whole_Quo.f k a x b y = _ := e1 k h1
  have g2 : tribunalref02_Quo.f k a x b y = _ := e2 k h2
  have g3 : tribunalref02_Same.f k c l c l = _ := e3 k h3
  have g4 : tribunalref02_Same.f k d m d m = _ := e4 k h4
  have g5 : tribunallaw02_awake.f k = _ := e5 k h5
  rw [tribunallaw02_WholeQuos.f, g1, Option.bind_some, g2, Option.bind_some, g3, Option.bind_some, if_pos rfl, g4, Option.bind_some, if_pos rfl, if_pos rfl, g5, Option.bind_some]
end Go.Proofs.YtodhkpdcpneeeaaDoor.Pure
