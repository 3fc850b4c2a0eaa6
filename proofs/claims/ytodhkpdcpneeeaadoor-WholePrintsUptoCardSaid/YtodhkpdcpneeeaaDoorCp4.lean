/- What the card rests on, part 4: words of the walk, the functions in Lean and that the code comes to them. No condition beyond those that each theorem names. -/
import Derived.Test.YtodhkpdcpneeeaaDoorCp3
set_option maxHeartbeats 8000000
set_option maxRecDepth 100000
namespace Go.Proofs.YtodhkpdcpneeeaaDoor.PurePPr
set_option linter.unusedVariables false
set_option linter.unusedSimpArgs false
open Go.RowKit Go.Proofs.YtodhkpdcpneeeaaDoorW.PrintWords Go.Proofs.YtodhkpdcpneeeaaDoorW.PrintLast Go.Proofs.YtodhkpdcpneeeaaDoorW.PrintMore Go.Proofs.YtodhkpdcpneeeaaDoor.PPr Go.Proofs.YtodhkpdcpneeeaaDoor Go.Proofs.YtodhkpdcpneeeaaDoor.Mine Big
theorem div_eq {T y g : Int} (hy : 0 < y) (h1 : g * y ≤ T) (h2 : T < (g + 1) * y) : T / y = g := by
  have := Int.le_ediv_of_mul_le hy h1
  have := Int.ediv_lt_of_lt_mul hy h2
  omega
structure Half (y yn1 yn0 u d q r : Int) : Prop where
  hy : y = yn1 * 4294967296 + yn0
  y1 : 2147483648 ≤ yn1 ∧ yn1 < 4294967296
  y0 : 0 ≤ yn0 ∧ yn0 < 4294967296
  hu : 0 ≤ u ∧ u < y
  hd : 0 ≤ d ∧ d < 4294967296
  hq : 0 ≤ q ∧ q ≤ 4294967297
  hr : 0 ≤ r ∧ r < 4294967296
  hqr : u = q * yn1 + r
  top : u * 4294967296 + d < (q + 1) * y
theorem Half.start {y yn1 yn0 u d : Int} (hy : y = yn1 * 4294967296 + yn0) (y1 : 2147483648 ≤ yn1 ∧ yn1 < 4294967296) (y0 : 0 ≤ yn0 ∧ yn0 < 4294967296) (hu : 0 ≤ u ∧ u < y) (hd : 0 ≤ d ∧ d < 4294967296) : Half y yn1 yn0 u d (u / yn1) (u % yn1) := by
  have h1 := Int.mul_ediv_add_emod u yn1
  have h2 := Int.emod_nonneg u (show yn1 ≠ 0 by omega)
  have h3 := Int.emod_lt_of_pos u (show 0 < yn1 by omega)
  have h4 : 0 ≤ u / yn1 := Int.ediv_nonneg hu.1 (by omega)
  have h5 : u / yn1 < 4294967298 := Int.ediv_lt_of_lt_mul (by omega) (by omega)
  rw [Int.mul_comm] at h1
  refine ⟨hy, y1, y0, hu, hd, ⟨h4, by omega⟩, ⟨h2, by omega⟩, h1.symm, ?_⟩
  have h6 : 0 ≤ (u / yn1 + 1) * yn0 := Int.mul_nonneg (by omega) y0.1
  have h7 : (u / yn1 + 1) * y = (u / yn1 * yn1 + yn1) * 4294967296 + (u / yn1 + 1) * yn0 := by
    rw [hy, Int.mul_add, ← Int.mul_assoc, Int.add_mul (u / yn1) 1 yn1, Int.one_mul]
  rw [h7]; omega
theorem Half.eqs {y yn1 yn0 u d q r : Int} (h : Half y yn1 yn0 u d q r) : u * 4294967296 + d - q * y = r * 4294967296 + d - q * yn0 := by
  have e : q * y = q * yn1 * 4294967296 + q * yn0 := by rw [h.hy, Int.mul_add, ← Int.mul_assoc]
  have := h.hqr
  rw [e]; omega
theorem Half.below {y yn1 yn0 u d q r : Int} (h : Half y yn1 yn0 u d q r) : u * 4294967296 + d < 4294967296 * y := by
  have := h.hu; have := h.hd; omega
theorem Half.good {y yn1 yn0 u d q r : Int} (h : Half y yn1 yn0 u d q r) (hc : q * yn0 ≤ r * 4294967296 + d) : (u * 4294967296 + d) / y = q := by
  have e := h.eqs
  have hy := h.hy; have h1 := h.y1; have h2 := h.y0
  exact div_eq (by omega) (by omega) h.top
theorem Half.much {y yn1 yn0 u d q r : Int} (h : Half y yn1 yn0 u d q r) (hc : q ≥ 4294967296 ∨ q * yn0 > r * 4294967296 + d) : u * 4294967296 + d < q * y ∧ 1 ≤ q := by
  have e := h.eqs
  have hy := h.hy; have h1 := h.y1; have h2 := h.y0; have h3 := h.hd; have h4 := h.hr; have h5 := h.hq
  rcases hc with hc | hc
  · have := h.below
    have h6 := Int.mul_le_mul_of_nonneg_right (show 4294967296 ≤ q from hc) (show 0 ≤ y by omega)
    omega
  · refine ⟨by omega, ?_⟩
    refine Classical.byContradiction fun hx => ?_
    have : q = 0 := by omega
    rw [this] at hc; omega
theorem Half.next {y yn1 yn0 u d q r : Int} (h : Half y yn1 yn0 u d q r) (hc : q ≥ 4294967296 ∨ q * yn0 > r * 4294967296 + d) (hr : r + yn1 < 4294967296) : Half y yn1 yn0 u d (q - 1) (r + yn1) := by
  obtain ⟨h1, h2⟩ := h.much hc
  have h3 := h.hqr; have h4 := h.hq; have h5 := h.hr; have h6 := h.y1
  refine ⟨h.hy, h.y1, h.y0, h.hu, h.hd, by omega, by omega, ?_, by rw [show q - 1 + 1 = q from by omega]; exact h1⟩
  rw [Int.sub_mul, Int.one_mul]; omega
theorem Half.last {y yn1 yn0 u d q r : Int} (h : Half y yn1 yn0 u d q r) (hc : q ≥ 4294967296 ∨ q * yn0 > r * 4294967296 + d) (hr : r + yn1 ≥ 4294967296) : (u * 4294967296 + d) / y = q - 1 := by
  obtain ⟨h1, h2⟩ := h.much hc
  have h3 := h.hqr; have h4 := h.hq; have h5 := h.hr; have h6 := h.y1; have h7 := h.y0; have h8 := h.hd; have hy := h.hy
  refine div_eq (by omega) ?_ (by rw [show q - 1 + 1 = q from by omega]; exact h1)
  have e := h.eqs
  have e2 : (q - 1) * y = q * y - y := by rw [Int.sub_mul, Int.one_mul]
  have e3 : (q - 1) * yn0 = q * yn0 - yn0 := by rw [Int.sub_mul, Int.one_mul]
  have h9 := Int.mul_le_mul (show q - 1 ≤ 4294967296 by omega) (show yn0 ≤ 4294967295 by omega) h7.1 (by decide)
  rw [e2]; omega
theorem Half.quot {y yn1 yn0 u d q r : Int} (h : Half y yn1 yn0 u d q r) : 0 ≤ (u * 4294967296 + d) / y ∧ (u * 4294967296 + d) / y < 4294967296 := by
  have h3 := h.hu; have h4 := h.hd; have hy := h.hy; have h6 := h.y1; have h7 := h.y0
  exact ⟨Int.ediv_nonneg (by omega) (by omega), Int.ediv_lt_of_lt_mul (by omega) h.below⟩
theorem Half.qy {y yn1 yn0 u d q r : Int} (h : Half y yn1 yn0 u d q r) (hq : q < 4294967296) : 0 ≤ q * yn0 ∧ q * yn0 < 18446744073709551616 := by
  have h1 := h.y0; have h2 := h.hq
  refine ⟨Int.mul_nonneg h2.1 h1.1, ?_⟩
  have := Int.mul_le_mul (show q ≤ 4294967295 by omega) (show yn0 ≤ 4294967295 by omega) h1.1 (by decide)
  omega
theorem u64_in {x : Int} (h : 0 ≤ x ∧ x < 18446744073709551616) : IntKind.u64.wrap x = x := by
  rw [IntKind.wrap_u64]; omega
theorem Div64_l0 {y yn1 yn0 u d : Int} (s e : Int) (R : Int × Int) (hR : Ev (fun k => bits_Div64.j2 k y s yn1 yn0 u d e ((u * 4294967296 + d) / y)) R) : ∀ (n : Nat) (q r : Int), (4294967296 - r).toNat ≤ n → Half y yn1 yn0 u d q r → Ev (fun k => bits_Div64.l0 k y s yn1 yn0 u d e q r) R := by
  obtain ⟨K0, hR⟩ := hR
  intro n
  induction n with
  | zero => intro q r hn h; have := h.hr; omega
  | succ n ih =>
    intro q r hn h
    have h2 := h.hq; have h3 := h.hr; have h4 := h.y1; have h5 := h.hd; have h6 := h.y0
    have key : ∀ k, bits_Div64.l0 (k + 1) y s yn1 yn0 u d e q r = bits_Div64.j1 k y s yn1 yn0 u d e q r (decide (q ≥ 4294967296 ∨ q * yn0 > r * 4294967296 + d)) := by
      intro k
      rw [bits_Div64.l0]
      by_cases hc : q ≥ 4294967296
      · rw [if_pos hc, decide_eq_true (Or.inl hc)]
      · have := h.qy (by omega)
        rw [if_neg hc, u64_in this, u64_in (x := 4294967296 * r) (by omega), u64_in (x := 4294967296 * r + d) (by omega)]
        congr 1
        apply Bool.eq_iff_iff.2
        simp only [decide_eq_true_eq]
        constructor
        · intro hx; right; omega
        · intro hx; rcases hx with hx | hx <;> omega
    by_cases hc : q ≥ 4294967296 ∨ q * yn0 > r * 4294967296 + d
    · have hq1 := (h.much hc).2
      by_cases ho : r + yn1 ≥ 4294967296
      · refine ⟨K0 + 2, fun k hk => ?_⟩
        obtain ⟨k, rfl⟩ : ∃ j, k = j + 2 := ⟨k - 2, by omega⟩
        show bits_Div64.l0 (k + 1 + 1) y s yn1 yn0 u d e q r = some R
        rw [key, decide_eq_true hc, bits_Div64.j1, if_pos rfl, u64_in (x := r + yn1) (by omega), if_pos ho, u64_in (x := q - 1) (by omega), ← h.last hc ho]
        exact hR k (by omega)
      · obtain ⟨K1, h1⟩ := ih (q - 1) (r + yn1) (by omega) (h.next hc (by omega))
        refine ⟨K1 + 2, fun k hk => ?_⟩
        obtain ⟨k, rfl⟩ : ∃ j, k = j + 2 := ⟨k - 2, by omega⟩
        show bits_Div64.l0 (k + 1 + 1) y s yn1 yn0 u d e q r = some R
        rw [key, decide_eq_true hc, bits_Div64.j1, if_pos rfl, u64_in (x := r + yn1) (by omega), if_neg ho, u64_in (x := q - 1) (by omega)]
        exact h1 k (by omega)
    · refine ⟨K0 + 2, fun k hk => ?_⟩
      obtain ⟨k, rfl⟩ : ∃ j, k = j + 2 := ⟨k - 2, by omega⟩
      show bits_Div64.l0 (k + 1 + 1) y s yn1 yn0 u d e q r = some R
      rw [key, decide_eq_false hc, bits_Div64.j1, if_neg (by decide)]
      have hg := h.good (by omega)
      rw [← hg]
      exact hR k (by omega)
theorem Div64_fin {y s P Q u d q g : Int} (h : Sh s P Q) (hy : 0 < y ∧ y < 18446744073709551616) (hu : 0 ≤ u ∧ u < y) (hd : 0 ≤ d ∧ d < 4294967296) (hg : (u * 4294967296 + d) / y = g) (hg0 : 0 ≤ g ∧ g < 4294967296) (hq : 0 ≤ q ∧ q < 4294967296) :
    (if 0 ≤ s then some (IntKind.u64.wrap (IntKind.u64.wrap (q * 4294967296) + g), Go.Proofs.YtodhkpdcpneeeaaDoorW.PrintWords.shr .u64 (IntKind.u64.wrap (IntKind.u64.wrap (IntKind.u64.wrap (u * 4294967296) + d) - IntKind.u64.wrap (g * y))) s) else none) = some (q * 4294967296 + g, (u * 4294967296 + d) % y / P) := by
  have hs := h.s0
  have h1 := Int.emod_nonneg (u * 4294967296 + d) (show y ≠ 0 by omega)
  have h2 := Int.emod_lt_of_pos (u * 4294967296 + d) hy.1
  have h3 := Int.mul_ediv_add_emod (u * 4294967296 + d) y
  rw [hg, Int.mul_comm y g] at h3
  rw [if_pos hs.1, u64_in (x := q * 4294967296) (by omega), u64_in (x := q * 4294967296 + g) (by omega), h.eqR]
  have e : IntKind.u64.wrap (IntKind.u64.wrap (IntKind.u64.wrap (u * 4294967296) + d) - IntKind.u64.wrap (g * y)) = (u * 4294967296 + d) % y := by
    simp only [IntKind.wrap_u64]
    omega
  rw [e]
theorem Div64_l1 {y yn1 yn0 u d s P Q : Int} (hs : Sh s P Q) (hy : 0 < y ∧ y < 18446744073709551616) (g : Int) (hg : 0 ≤ g ∧ g < 4294967296) : ∀ (n : Nat) (q r : Int), (4294967296 - r).toNat ≤ n → Half y yn1 yn0 u d q r → Ev (fun k => bits_Div64.l1 k y s yn1 yn0 d g r u q) (g * 4294967296 + (u * 4294967296 + d) / y, (u * 4294967296 + d) % y / P) := by
  intro n
  induction n with
  | zero => intro q r hn h; have := h.hr; omega
  | succ n ih =>
    intro q r hn h
    have h2 := h.hq; have h3 := h.hr; have h4 := h.y1; have h5 := h.hd; have h6 := h.y0
    have hquot := h.quot
    have key : ∀ k, bits_Div64.l1 (k + 1) y s yn1 yn0 d g r u q = bits_Div64.j4 k y s yn1 yn0 d g r u q (decide (q ≥ 4294967296 ∨ q * yn0 > r * 4294967296 + d)) := by
      intro k
      rw [bits_Div64.l1]
      by_cases hc : q ≥ 4294967296
      · rw [if_pos hc, decide_eq_true (Or.inl hc)]
      · have := h.qy (by omega)
        rw [if_neg hc, u64_in this, u64_in (x := 4294967296 * r) (by omega), u64_in (x := 4294967296 * r + d) (by omega)]
        congr 1
        apply Bool.eq_iff_iff.2
        simp only [decide_eq_true_eq]
        constructor
        · intro hx; right; omega
        · intro hx; rcases hx with hx | hx <;> omega
    by_cases hc : q ≥ 4294967296 ∨ q * yn0 > r * 4294967296 + d
    · have hq1 := (h.much hc).2
      by_cases ho : r + yn1 ≥ 4294967296
      · have hl := h.last hc ho
        refine ⟨2, fun k hk => ?_⟩
        obtain ⟨k, rfl⟩ : ∃ j, k = j + 2 := ⟨k - 2, by omega⟩
        show bits_Div64.l1 (k + 1 + 1) y s yn1 yn0 d g r u q = _
        rw [key, decide_eq_true hc, bits_Div64.j4, if_pos rfl, u64_in (x := r + yn1) (by omega), if_pos ho, u64_in (x := q - 1) (by omega), Div64_fin hs hy h.hu h.hd hl (by rw [← hl]; exact hquot) hg, hl]
      · obtain ⟨K1, h1⟩ := ih (q - 1) (r + yn1) (by omega) (h.next hc (by omega))
        refine ⟨K1 + 2, fun k hk => ?_⟩
        obtain ⟨k, rfl⟩ : ∃ j, k = j + 2 := ⟨k - 2, by omega⟩
        show bits_Div64.l1 (k + 1 + 1) y s yn1 yn0 d g r u q = _
        rw [key, decide_eq_true hc, bits_Div64.j4, if_pos rfl, u64_in (x := r + yn1) (by omega), if_neg ho, u64_in (x := q - 1) (by omega)]
        exact h1 k (by omega)
    · have hl := h.good (by omega)
      refine ⟨2, fun k hk => ?_⟩
      obtain ⟨k, rfl⟩ : ∃ j, k = j + 2 := ⟨k - 2, by omega⟩
      show bits_Div64.l1 (k + 1 + 1) y s yn1 yn0 d g r u q = _
      rw [key, decide_eq_false hc, bits_Div64.j4, if_neg (by decide), Div64_fin hs hy h.hu h.hd hl (by rw [← hl]; exact hquot) hg, hl]
theorem step_wrap (i n : Nat) (hi : i < n) (hn : n ≤ 8388608) : wrap64 ((i : Int) + 1) = ((i + 1 : Nat) : Int) := by rw [w64 _ (by omega)]; omega
theorem bitLen_up {x : Nat} (h0 : 0 < x) (h : x < 2 ^ 64) : 1 ≤ Lib.bitLen x ∧ Lib.bitLen x ≤ 64 ∧ x < 2 ^ Lib.bitLen x ∧ 2 ^ (Lib.bitLen x - 1) ≤ x := by
  have h1 := Lib.bitLen_half x (by omega) h
  have h2 := Lib.bitLen_le x 64 (by omega) h
  refine ⟨by omega, h2, ?_, ?_⟩
  · refine Classical.byContradiction fun hc => ?_
    have h3 := Lib.bitLen_shift (Lib.bitLen x) x (by omega) h
    have h4 : 0 < x / 2 ^ Lib.bitLen x := Nat.div_pos (by omega) (Nat.pow_pos (by decide))
    have h5 := Lib.bitLen_half (x / 2 ^ Lib.bitLen x) (by omega) (Nat.lt_of_le_of_lt (Nat.div_le_self _ _) h)
    omega
  · refine Classical.byContradiction fun hc => ?_
    have h3 := Lib.bitLen_le x (Lib.bitLen x - 1) (by omega) (by omega)
    omega
theorem clz {x : Int} (h : 0 < x ∧ x < 18446744073709551616) : ∃ s P Q, bits_LeadingZeros64.f x = some s ∧ Sh s P Q ∧ 9223372036854775808 ≤ x * P ∧ x * P < 18446744073709551616 := by
  obtain ⟨n, rfl⟩ := Int.eq_ofNat_of_zero_le (Int.le_of_lt h.1)
  have hn : 0 < n ∧ n < 2 ^ 64 := by omega
  obtain ⟨b1, b2, b3, b4⟩ := bitLen_up hn.1 hn.2
  refine ⟨64 - (Lib.bitLen n : Int), 2 ^ (64 - Lib.bitLen n), 2 ^ Lib.bitLen n, ?_, ⟨by omega, Int.pow_pos (by decide), Int.pow_pos (by decide), ?_, ⟨_, rfl, by omega⟩, ⟨_, rfl, by omega⟩⟩, ?_, ?_⟩
  · rw [bits_LeadingZeros64.f, if_pos (by omega), Int.toNat_natCast]
  · rw [← Int.pow_add, show 64 - Lib.bitLen n + Lib.bitLen n = 64 from by omega]; decide
  · have e : (9223372036854775808 : Int) = ((2 ^ (Lib.bitLen n - 1) * 2 ^ (64 - Lib.bitLen n) : Nat) : Int) := by
      rw [← Nat.pow_add, show Lib.bitLen n - 1 + (64 - Lib.bitLen n) = 63 from by omega]; rfl
    rw [e, show ((n : Int) * 2 ^ (64 - Lib.bitLen n)) = ((n * 2 ^ (64 - Lib.bitLen n) : Nat) : Int) from by simp]
    exact Int.ofNat_le.2 (Nat.mul_le_mul_right _ b4)
  · have e : (18446744073709551616 : Int) = ((2 ^ Lib.bitLen n * 2 ^ (64 - Lib.bitLen n) : Nat) : Int) := by
      rw [← Nat.pow_add, show Lib.bitLen n + (64 - Lib.bitLen n) = 64 from by omega]; rfl
    rw [e, show ((n : Int) * 2 ^ (64 - Lib.bitLen n)) = ((n * 2 ^ (64 - Lib.bitLen n) : Nat) : Int) from by simp]
    exact Int.ofNat_lt.2 (Nat.mul_lt_mul_of_pos_right b3 (Nat.pow_pos (by decide)))
theorem scale_div {X a P G r : Int} (hP : 0 < P) (ha : 0 < a) (h : X * P = G * (a * P) + r) (h0 : 0 ≤ r) (h1 : r < a * P) : X / a = G ∧ X % a = r / P := by
  have e : r = (X - G * a) * P := by rw [Int.sub_mul, h, Int.mul_assoc]; omega
  have d0 : 0 ≤ X - G * a := by
    refine Classical.byContradiction fun hc => ?_
    have := Int.mul_le_mul_of_nonneg_right (show X - G * a ≤ -1 by omega) (Int.le_of_lt hP)
    omega
  have d1 : X - G * a < a := by
    refine Classical.byContradiction fun hc => ?_
    have := Int.mul_le_mul_of_nonneg_right (show a ≤ X - G * a by omega) (Int.le_of_lt hP)
    omega
  have hq : X / a = G := div_eq ha (by omega) (by rw [Int.add_mul, Int.one_mul]; omega)
  refine ⟨hq, ?_⟩
  have h2 := Int.mul_ediv_add_emod X a
  rw [hq, Int.mul_comm a G] at h2
  rw [e, Int.mul_ediv_cancel _ (Int.ne_of_gt hP)]
  omega
theorem tdivmod {u d : Int} (hu : 0 ≤ u ∧ u < 18446744073709551616) (hd : 0 < d) : IntKind.u64.wrap (Int.tdiv u d) = u / d ∧ IntKind.u64.wrap (u - IntKind.u64.wrap (IntKind.u64.wrap (Int.tdiv u d) * d)) = u % d := by
  have h1 := Int.mul_ediv_add_emod u d
  have h2 := Int.emod_nonneg u (Int.ne_of_gt hd)
  have h3 := Int.emod_lt_of_pos u hd
  have h4 : 0 ≤ u / d := Int.ediv_nonneg hu.1 (Int.le_of_lt hd)
  have h5 : u / d ≤ u := by
    have := Int.mul_le_mul_of_nonneg_right (show (1 : Int) ≤ d by omega) h4
    rw [Int.one_mul] at this; omega
  have e : IntKind.u64.wrap (Int.tdiv u d) = u / d := by
    rw [Int.tdiv_eq_ediv_of_nonneg hu.1, u64_in ⟨h4, by omega⟩]
  refine ⟨e, ?_⟩
  have h6 : 0 ≤ u / d * d := Int.mul_nonneg h4 (Int.le_of_lt hd)
  rw [Int.mul_comm] at h1
  rw [e, u64_in (x := u / d * d) ⟨h6, by omega⟩, show u - u / d * d = u % d from by omega, u64_in ⟨h2, by omega⟩]
theorem rest_eq {y u d g : Int} (hy : 0 < y ∧ y < 18446744073709551616) (hg : (u * 4294967296 + d) / y = g) : IntKind.u64.wrap (IntKind.u64.wrap (IntKind.u64.wrap (u * 4294967296) + d) - IntKind.u64.wrap (g * y)) = (u * 4294967296 + d) % y := by
  have h1 := Int.emod_nonneg (u * 4294967296 + d) (show y ≠ 0 by omega)
  have h2 := Int.emod_lt_of_pos (u * 4294967296 + d) hy.1
  have h3 := Int.mul_ediv_add_emod (u * 4294967296 + d) y
  rw [hg, Int.mul_comm y g] at h3
  simp only [IntKind.wrap_u64]
  omega
theorem Div64_j2 {y yn1 yn0 u d1 d0 s P Q : Int} (hs : Sh s P Q) (hy : y = yn1 * 4294967296 + yn0) (y1 : 2147483648 ≤ yn1 ∧ yn1 < 4294967296) (y0 : 0 ≤ yn0 ∧ yn0 < 4294967296) (hu : 0 ≤ u ∧ u < y) (h1 : 0 ≤ d1 ∧ d1 < 4294967296) (h0 : 0 ≤ d0 ∧ d0 < 4294967296) :
    Ev (fun k => bits_Div64.j2 k y s yn1 yn0 u d1 d0 ((u * 4294967296 + d1) / y)) ((u * 4294967296 + d1) / y * 4294967296 + ((u * 4294967296 + d1) % y * 4294967296 + d0) / y, ((u * 4294967296 + d1) % y * 4294967296 + d0) % y / P) := by
  have hyM : 0 < y ∧ y < 18446744073709551616 := by omega
  have hst := Half.start hy y1 y0 hu h1
  have hr0 := Int.emod_nonneg (u * 4294967296 + d1) (show y ≠ 0 by omega)
  have hr1 := Int.emod_lt_of_pos (u * 4294967296 + d1) hyM.1
  obtain ⟨K, hK⟩ := Div64_l1 hs hyM ((u * 4294967296 + d1) / y) hst.quot _ _ _ (Nat.le_refl _) (Half.start hy y1 y0 ⟨hr0, hr1⟩ h0)
  obtain ⟨t1, t2⟩ := tdivmod (u := (u * 4294967296 + d1) % y) (d := yn1) ⟨hr0, by omega⟩ (by omega)
  have he := rest_eq hyM (rfl : (u * 4294967296 + d1) / y = _)
  refine ⟨K + 1, fun k hk => ?_⟩
  obtain ⟨k, rfl⟩ : ∃ j, k = j + 1 := ⟨k - 1, by omega⟩
  have hk := hK k (by omega)
  show bits_Div64.j2 (k + 1) y s yn1 yn0 u d1 d0 ((u * 4294967296 + d1) / y) = _
  rw [bits_Div64.j2, if_neg (show ¬ yn1 = 0 by omega), he, t2, t1]
  exact hk
theorem Div64_ev {a0 a1 a2 : Int} (h0 : 0 ≤ a0 ∧ a0 < a2) (h1 : 0 ≤ a1 ∧ a1 < 18446744073709551616) (h2 : a2 < 18446744073709551616) : Ev (fun k => bits_Div64.f k a0 a1 a2) ((a0 * 18446744073709551616 + a1) / a2, (a0 * 18446744073709551616 + a1) % a2) := by
  by_cases hz : a0 = 0
  · refine ⟨0, fun k _ => ?_⟩
    show bits_Div64.f k a0 a1 a2 = _
    have h4 : 0 ≤ a1 / a2 := Int.ediv_nonneg h1.1 (by omega)
    have h5 : a1 / a2 ≤ a1 := Int.ediv_le_self _ h1.1
    rw [bits_Div64.f, if_neg (by omega), if_neg (by omega), if_pos hz, Int.tdiv_eq_ediv_of_nonneg h1.1, Int.tmod_eq_emod_of_nonneg h1.1, u64_in ⟨h4, by omega⟩, hz, Int.zero_mul, Int.zero_add]
  · obtain ⟨s, P, Q, hc, hs, hP1, hP2⟩ := clz (x := a2) (by omega)
    have hs0 := hs.s0
    have hP0 := hs.P0
    have hQ0 := hs.Q0
    have haQ : a2 < Q := by
      refine Classical.byContradiction fun hx => ?_
      have := Int.mul_le_mul_of_nonneg_right (show Q ≤ a2 by omega) (Int.le_of_lt hP0)
      rw [Int.mul_comm Q P, hs.PQ] at this
      omega
    have e2 : shl .u64 a2 s = a2 * P := by rw [hs.eqL (by omega), Int.emod_eq_of_lt (by omega) haQ]
    have e0 : shl .u64 a0 s = a0 * P := by rw [hs.eqL (by omega), Int.emod_eq_of_lt (by omega) (by omega)]
    have e1 : shl .u64 a1 s = a1 % Q * P := hs.eqL h1
    have e3 : shr .u64 a1 (64 - s) = a1 / Q := hs.eqR'
    obtain ⟨p1, p2, p3, p4, p5, _⟩ := shl_parts hP0 hQ0 hs.PQ h1
    obtain ⟨t, et, _⟩ := hs.P1
    have a0P : 0 ≤ a0 * P := Int.mul_nonneg h0.1 (Int.le_of_lt hP0)
    have a0P2 : a0 * P + P ≤ a2 * P := by
      have := Int.mul_le_mul_of_nonneg_right (show a0 + 1 ≤ a2 by omega) (Int.le_of_lt hP0)
      rw [Int.add_mul, Int.one_mul] at this; exact this
    have hPle := hs.P_le
    have eor : Go.bits .or .u64 (a0 * P) (a1 / Q) = a0 * P + a1 / Q := (or_add t ⟨a0P, by omega⟩ ⟨a0, by rw [et]⟩ (by rw [← et]; exact ⟨p2, p3⟩) (by omega)).1
    have hX : (a0 * 18446744073709551616 + a1) * P = (a0 * P + a1 / Q) * 18446744073709551616 + a1 % Q * P := by
      rw [Int.add_mul, Int.add_mul, p1, Int.mul_assoc, Int.mul_comm 18446744073709551616 P, ← Int.mul_assoc]; omega
    have hw1 : IntKind.u64.wrap s = s := u64_in (by omega)
    have hcnt := hs.count
    clear p1
    generalize hyy : a2 * P = y at *
    generalize huu : a0 * P + a1 / Q = u at *
    generalize hww : a1 % Q * P = w at *
    have hu : 0 ≤ u ∧ u < y := by omega
    have hyn : y = y / 4294967296 * 4294967296 + y % 4294967296 := by omega
    have y1 : 2147483648 ≤ y / 4294967296 ∧ y / 4294967296 < 4294967296 := by omega
    have y0 : 0 ≤ y % 4294967296 ∧ y % 4294967296 < 4294967296 := by omega
    have w1 : 0 ≤ w / 4294967296 ∧ w / 4294967296 < 4294967296 := by omega
    have w0 : 0 ≤ w % 4294967296 ∧ w % 4294967296 < 4294967296 := by omega
    obtain ⟨K, hK⟩ := Div64_l0 s (w % 4294967296) _ (Div64_j2 hs hyn y1 y0 hu w1 w0) _ _ _ (Nat.le_refl _) (Half.start hyn y1 y0 hu w1)
    obtain ⟨t1, t2⟩ := tdivmod (u := u) (d := y / 4294967296) (by omega) (by omega)
    have hres := scale_div (X := a0 * 18446744073709551616 + a1) (a := a2) (P := P) (G := (u * 4294967296 + w / 4294967296) / y * 4294967296 + ((u * 4294967296 + w / 4294967296) % y * 4294967296 + w % 4294967296) / y) (r := ((u * 4294967296 + w / 4294967296) % y * 4294967296 + w % 4294967296) % y) hP0 (by omega) (by
      have g1 := Int.mul_ediv_add_emod (u * 4294967296 + w / 4294967296) y
      have g2 := Int.mul_ediv_add_emod ((u * 4294967296 + w / 4294967296) % y * 4294967296 + w % 4294967296) y
      rw [hX, hyy, Int.add_mul, Int.mul_comm _ y, Int.mul_comm _ y, ← Int.mul_assoc]
      omega) (Int.emod_nonneg _ (by omega)) (by rw [hyy]; exact Int.emod_lt_of_pos _ (by omega))
    rw [hres.1, hres.2]
    refine ⟨K, fun k hk => ?_⟩
    have hk := hK k hk
    show bits_Div64.f k a0 a1 a2 = _
    rw [bits_Div64.f, if_neg (by omega), if_neg (by omega), if_neg hz, hc, Option.bind_some, hw1, if_pos hs0.1, hcnt, if_pos (by omega), e2, e0, e1, e3, eor, if_neg (by omega), and32 y (by omega), and32 w (by omega), t2, t1]
    exact hk
theorem tribunalref02_cmpD_l0 (a b : List Int) (hl : a.length ≤ 8388608) (hab : a.length = b.length) (da : Dig 65536 a) (db : Dig 65536 b) : ∀ (n k : Nat) (i : Int), n ≤ a.length → n < k → i = (n : Int) - 1 → tribunalref02_cmpD.l0 k a b i = some (sg (val 65536 (a.take n) - val 65536 (b.take n))) := by
  intro n
  induction n with
  | zero =>
    intro k i _ hk hi
    obtain ⟨k, rfl⟩ : ∃ j, k = j + 1 := ⟨k - 1, by omega⟩
    rw [tribunalref02_cmpD.l0, if_neg (by omega), sg_zero (by simp)]
  | succ n ih =>
    intro k i hn hk hi
    obtain ⟨k, rfl⟩ : ∃ j, k = j + 1 := ⟨k - 1, by omega⟩
    have hi' : i = (n : Int) := by omega
    subst hi'
    have hna : n < a.length := by omega
    have hnb : n < b.length := by omega
    rw [tribunalref02_cmpD.l0, if_pos (by omega), if_pos (by omega), if_pos (by omega), if_pos (by omega), rd_nat a n hna, rd_nat b n hnb]
    rcases Int.lt_trichotomy a[n] b[n] with h | h | h
    · have := lt_of_top (by decide) da db n hna hnb h
      rw [if_pos h]
      rw [sg_neg (by omega)]
    · rw [if_neg (by omega), if_neg (by omega)]
      rw [w64 _ (by omega), ih k _ (by omega) (by omega) rfl, val_take_succ 65536 a n hna, val_take_succ 65536 b n hnb, h]
      congr 2
      omega
    · have := lt_of_top (by decide) db da n hnb hna h
      rw [if_neg (by omega), if_pos h]
      rw [sg_pos (by omega)]
theorem tribunalref02_cmpD_ev (a b : List Int) (ha : a.length ≤ 8388608) (hb : b.length ≤ 8388608) (da : Dig 65536 a) (db : Dig 65536 b) (ta : Top a) (tb : Top b) : Ev (fun k => tribunalref02_cmpD.f k a b) (sg (val 65536 a - val 65536 b)) := by
  refine ⟨a.length + 1, fun k hk => ?_⟩
  show tribunalref02_cmpD.f k a b = _
  rw [tribunalref02_cmpD.f]
  rcases Nat.lt_trichotomy a.length b.length with h | h | h
  · have := lt_of_len (by decide) da db tb h
    rw [if_neg (by omega), if_pos (by omega), sg_neg (by omega)]
  · rw [if_pos (by omega), w64 _ (by omega), tribunalref02_cmpD_l0 a b ha h da db a.length k _ (Nat.le_refl _) (by omega) rfl, List.take_length, h, List.take_length]
  · have := lt_of_len (by decide) db da ta h
    rw [if_neg (by omega), if_neg (by omega), sg_pos (by omega)]
theorem borrow_none {V c P X Y : Int} (hV : 0 ≤ V ∧ V < P) (hc : 0 ≤ c ∧ c ≤ 1) (hle : Y ≤ X) (h : V - c * P = X - Y) : V = X - Y := by
  have : c = 0 ∨ c = 1 := by omega
  rcases this with h1 | h1
  · rw [h1] at h; omega
  · rw [h1] at h; omega
theorem w32 (n : Int) (h : -2147483648 ≤ n ∧ n ≤ 2147483647) : wrap32 n = n := by unfold wrap32; omega
theorem subD_step (k : Nat) (a b out : List Int) (c : Int) (i : Nat) (hi : i < a.length) (ha : a.length ≤ 8388608) (ho : out.length = i) (da : Dig 65536 a) (db : Dig 65536 b) (hc : 0 ≤ c ∧ c ≤ 1) :
    tribunalref02_subD.l0 (k + 1) a b out c (i : Int) = tribunalref02_subD.l0 k a b (out ++ [(a.getD i 0 - b.getD i 0 - c) % 65536]) (if a.getD i 0 < b.getD i 0 + c then 1 else 0) ((i + 1 : Nat) : Int) := by
  have ga := getD_dig (by decide) da i
  have gb := getD_dig (by decide) db i
  have hw : wrap64 ((i : Int) + 1) = ((i + 1 : Nat) : Int) := by rw [w64 _ (by omega)]; omega
  rw [tribunalref02_subD.l0, rd_getD, rd_getD, hw, w32 (a.getD i 0) (by omega), w32 (b.getD i 0) (by omega), w32 (a.getD i 0 - c) (by omega), w32 (a.getD i 0 - c - b.getD i 0) (by omega), w32 (a.getD i 0 - c - b.getD i 0 + 65536) (by omega), w32 (a.getD i 0 - c + 65536) (by omega), if_pos (by omega), if_pos (by omega)]
  by_cases h2 : (i : Int) < (b.length : Int)
  · rw [if_pos h2]
    by_cases h3 : a.getD i 0 - c - b.getD i 0 < 0
    · rw [if_pos h3, if_pos (by omega), if_pos (by omega), IntKind.wrap_u16, show (a.getD i 0 - c - b.getD i 0 + 65536) % 65536 = (a.getD i 0 - b.getD i 0 - c) % 65536 from by omega]
    · rw [if_neg h3, if_pos (by omega), if_neg (by omega), IntKind.wrap_u16, show (a.getD i 0 - c - b.getD i 0) % 65536 = (a.getD i 0 - b.getD i 0 - c) % 65536 from by omega]
  · have h0 := getD_ge b i (by omega)
    rw [if_neg h2]
    by_cases h3 : a.getD i 0 - c < 0
    · rw [if_pos h3, if_pos (by omega), if_pos (by omega), IntKind.wrap_u16, show (a.getD i 0 - c + 65536) % 65536 = (a.getD i 0 - b.getD i 0 - c) % 65536 from by omega]
    · rw [if_neg h3, if_pos (by omega), if_neg (by omega), IntKind.wrap_u16, show (a.getD i 0 - c) % 65536 = (a.getD i 0 - b.getD i 0 - c) % 65536 from by omega]
theorem subD_l0 (a b : List Int) (hl : a.length ≤ 8388608) (hb : b.length ≤ a.length) (hle : val 65536 b ≤ val 65536 a) (da : Dig 65536 a) (db : Dig 65536 b) : ∀ (n i : Nat) (out : List Int) (c : Int), i + n = a.length → out.length = i → Dig 65536 out → 0 ≤ c ∧ c ≤ 1 → val 65536 out - c * 65536 ^ i = val 65536 (a.take i) - val 65536 (b.take i) →
    ∃ r, Ev (fun k => tribunalref02_subD.l0 k a b out c (i : Int)) r ∧ Rep 65536 (val 65536 a - val 65536 b) r := by
  intro n
  induction n with
  | zero =>
    intro i out c hi ho hd hc hv
    obtain ⟨r, ⟨K, hr⟩, h1, h2, h3⟩ := tribunalref02_trim_ev (B := 65536) (l := out) (by omega) hd
    refine ⟨r, ⟨K + 1, fun k hk => ?_⟩, h1, h2, ?_⟩
    · obtain ⟨k, rfl⟩ : ∃ j, k = j + 1 := ⟨k - 1, by omega⟩
      have hk' : tribunalref02_trim.f k out = some r := hr k (by omega)
      show tribunalref02_subD.l0 (k + 1) a b out c (i : Int) = some r
      rw [tribunalref02_subD.l0, if_neg (by omega), hk', Option.bind_some]
    · rw [h3]
      rw [List.take_of_length_le (by omega), List.take_of_length_le (by omega)] at hv
      have g1 := val_lt (B := 65536) (by decide) hd
      have g2 := val_nonneg (B := 65536) (by decide) hd
      rw [ho] at g1
      exact borrow_none ⟨g2, g1⟩ hc hle hv
  | succ n ih =>
    intro i out c hi ho hd hc hv
    have hil : i < a.length := by omega
    have ga := getD_dig (by decide) da i
    have gb := getD_dig (by decide) db i
    obtain ⟨r, ⟨K, hr⟩, hq⟩ := ih (i + 1) (out ++ [(a.getD i 0 - b.getD i 0 - c) % 65536]) (if a.getD i 0 < b.getD i 0 + c then 1 else 0) (by omega) (by simp; omega)
      (Dig.append.2 ⟨hd, by rw [Dig.cons]; exact ⟨by omega, Dig.nil⟩⟩) (by split <;> omega)
      (by rw [val_snoc, ho, val_take_getD, val_take_getD, Int.pow_succ]; exact sub_step _ c _ _ _ _ _ _ _ _ (by split <;> omega) hv)
    refine ⟨r, ⟨K + 1, fun k hk => ?_⟩, hq⟩
    obtain ⟨k, rfl⟩ : ∃ j, k = j + 1 := ⟨k - 1, by omega⟩
    show tribunalref02_subD.l0 (k + 1) a b out c (i : Int) = some r
    rw [subD_step k a b out c i hil hl ho da db hc]
    exact hr k (by omega)
theorem subD_ev (a b : List Int) (ha : a.length ≤ 8388608) (hb : b.length ≤ a.length) (hle : val 65536 b ≤ val 65536 a) (da : Dig 65536 a) (db : Dig 65536 b) :
    ∃ r, Ev (fun k => tribunalref02_subD.f k a b) r ∧ Rep 65536 (val 65536 a - val 65536 b) r := by
  obtain ⟨r, ⟨K, hr⟩, hq⟩ := subD_l0 a b ha hb hle da db a.length 0 [] 0 (by omega) rfl Dig.nil (by omega) (by simp [val])
  refine ⟨r, ⟨K, fun k hk => ?_⟩, hq⟩
  show tribunalref02_subD.f k a b = some r
  rw [tribunalref02_subD.f]
  exact hr k hk
theorem len_of_le {B : Int} (hB : 0 < B) {a b : List Int} (da : Dig B a) (db : Dig B b) (tb : Top b) (h : val B b ≤ val B a) : b.length ≤ a.length := by
  refine Classical.byContradiction fun hc => ?_
  have := lt_of_len hB da db tb (by omega)
  omega
theorem mul_step (V c c' s x n X P B : Int) (hs : c' * B + s = x * n + c) (hv : V + c * P = X * n) : (V + s * P) + c' * (P * B) = (X + x * P) * n := by
  have h1 : c' * (P * B) + s * P = (c' * B + s) * P := by rw [Int.add_mul, Int.mul_assoc, Int.mul_comm P B]
  have h2 : x * P * n = x * n * P := by rw [Int.mul_assoc, Int.mul_comm P n, ← Int.mul_assoc]
  rw [hs, Int.add_mul] at h1
  rw [Int.add_mul, h2]
  omega
theorem timesD_step (k : Nat) (a out : List Int) (n c t : Int) (i : Nat) (hi : i < a.length) (hl : a.length ≤ 8388608) (ho : out.length = i) (ht : (c + a.getD i 0 % 4294967296 * n) % 4294967296 = t) :
    tribunalref02_timesD.l0 (k + 1) a n out c (i : Int) = tribunalref02_timesD.l0 k a n (out ++ [t % 65536]) (t / 65536) ((i + 1 : Nat) : Int) := by
  have hwr := step_wrap i a.length hi hl
  rw [tribunalref02_timesD.l0, if_pos (by omega), if_pos (by omega), if_pos (by omega), rd_getD, ht, hwr, IntKind.wrap_u16]
theorem timesD_l0 (a : List Int) (n : Int) (hn : 0 ≤ n ∧ n < 65536) (hl : a.length ≤ 8388608) (da : Dig 65536 a) : ∀ (m i : Nat) (out : List Int) (c : Int), i + m = a.length → out.length = i → Dig 65536 out → 0 ≤ c ∧ c < 65536 → val 65536 out + c * 65536 ^ i = val 65536 (a.take i) * n →
    ∃ r, Ev (fun k => tribunalref02_timesD.l0 k a n out c (i : Int)) r ∧ Rep 65536 (val 65536 a * n) r := by
  intro m
  induction m with
  | zero =>
    intro i out c hi ho hd hc hv
    obtain ⟨r, ⟨K, hr⟩, h1, h2, h3⟩ := tribunalref02_trim_ev (B := 65536) (l := out ++ [c]) (by simp; omega) (Dig.append.2 ⟨hd, by rw [Dig.cons]; exact ⟨hc, Dig.nil⟩⟩)
    refine ⟨r, ⟨K + 1, fun k hk => ?_⟩, h1, h2, ?_⟩
    · obtain ⟨k, rfl⟩ : ∃ j, k = j + 1 := ⟨k - 1, by omega⟩
      have hk' : tribunalref02_trim.f k (out ++ [c]) = some r := hr k (by omega)
      have hw : IntKind.u16.wrap c = c := by rw [IntKind.wrap_u16]; omega
      show tribunalref02_timesD.l0 (k + 1) a n out c (i : Int) = some r
      rw [tribunalref02_timesD.l0, if_neg (by omega), if_pos (by omega), hw, hk', Option.bind_some]
    · rw [h3, val_snoc, ho, hv, show i = a.length from by omega, List.take_length]
  | succ m ih =>
    intro i out c hi ho hd hc hv
    have hil : i < a.length := by omega
    have ga := getD_dig (by decide) da i
    have hb := mul_bound (M := 65535) (x := a.getD i 0) (y := n) (by omega) (by omega)
    have ht : (c + a.getD i 0 % 4294967296 * n) % 4294967296 = a.getD i 0 * n + c := by
      rw [Int.emod_eq_of_lt ga.1 (by omega)]
      generalize a.getD i 0 * n = p at *
      omega
    obtain ⟨r, ⟨K, hr⟩, hq⟩ := ih (i + 1) (out ++ [(a.getD i 0 * n + c) % 65536]) ((a.getD i 0 * n + c) / 65536) (by omega) (by simp; omega)
      (Dig.append.2 ⟨hd, by rw [Dig.cons]; exact ⟨by omega, Dig.nil⟩⟩) (by generalize a.getD i 0 * n = p at *; omega)
      (by rw [val_snoc, ho, val_take_getD, Int.pow_succ]; exact mul_step _ c _ _ _ _ _ _ _ (by omega) hv)
    refine ⟨r, ⟨K + 1, fun k hk => ?_⟩, hq⟩
    obtain ⟨k, rfl⟩ : ∃ j, k = j + 1 := ⟨k - 1, by omega⟩
    show tribunalref02_timesD.l0 (k + 1) a n out c (i : Int) = some r
    rw [timesD_step k a out n c _ i hil hl ho ht]
    exact hr k (by omega)
theorem timesD_ev (a : List Int) (n : Int) (hn : 0 ≤ n ∧ n < 65536) (hl : a.length ≤ 8388608) (da : Dig 65536 a) :
    ∃ r, Ev (fun k => tribunalref02_timesD.f k a n) r ∧ Rep 65536 (val 65536 a * n) r := by
  obtain ⟨r, ⟨K, hr⟩, hq⟩ := timesD_l0 a n hn hl da a.length 0 [] 0 (by omega) rfl Dig.nil (by omega) (by simp [val])
  refine ⟨r, ⟨K, fun k hk => ?_⟩, hq⟩
  show tribunalref02_timesD.f k a n = some r
  rw [tribunalref02_timesD.f]
  exact hr k hk
theorem times_len {A n : Int} {r : List Int} {L : Nat} (h : Rep 65536 (A * n) r) (hA : 0 ≤ A ∧ A < 65536 ^ L) (hn : 0 ≤ n ∧ n < 65536) : r.length ≤ L + 1 := by
  refine rep_len (by decide) h ?_
  rw [Int.pow_succ]
  have h1 := Int.mul_le_mul_of_nonneg_left (show n ≤ 65535 by omega) hA.1
  omega
theorem sg_le {n : Int} : sg n ≤ 0 ↔ n ≤ 0 := by unfold sg; split <;> (try split) <;> omega
theorem digit_l0 {A D : Int} {a b : List Int} (ha : Rep 65536 A a) (hb : Rep 65536 D b) (hD : 0 < D) (la : a.length ≤ 8388600) (lb : b.length ≤ 8388600) : ∀ (m : Nat) (lo hi : Int), (hi - lo).toNat ≤ m → 0 ≤ lo → lo ≤ hi → hi ≤ 65535 → D * lo ≤ A → A < D * (hi + 1) →
    ∃ r, Ev (fun k => tribunalref02_digit.l0 k a b lo hi) (A / D, r) ∧ Rep 65536 (A % D) r := by
  have hDl := hb.lt (by decide)
  have hA := ha.nonneg (by decide)
  intro m
  induction m with
  | zero =>
    intro lo hi hm h0 h1 h2 h3 h4
    have hlh : lo = hi := by omega
    subst hlh
    obtain ⟨t, ⟨K1, e1⟩, ht⟩ := timesD_ev b lo (by omega) (by omega) hb.dig
    rw [hb.val] at ht
    have hlt := times_len ht ⟨Int.le_of_lt hD, hDl⟩ (by omega)
    have hlen := len_of_le (by decide) ha.dig ht.dig ht.top (by rw [ha.val, ht.val]; exact h3)
    obtain ⟨r, ⟨K2, e2⟩, hr⟩ := subD_ev a t (by omega) hlen (by rw [ha.val, ht.val]; exact h3) ha.dig ht.dig
    rw [ha.val, ht.val] at hr
    have hdiv : A / D = lo := div_eq hD (by rw [Int.mul_comm]; exact h3) (by rw [Int.mul_comm]; exact h4)
    have hmod : A % D = A - D * lo := by
      have := Int.mul_ediv_add_emod A D
      rw [hdiv] at this; omega
    refine ⟨r, ⟨K1 + K2 + 1, fun k hk => ?_⟩, by rw [hmod]; exact hr⟩
    obtain ⟨k, rfl⟩ : ∃ j, k = j + 1 := ⟨k - 1, by omega⟩
    have g1 : tribunalref02_timesD.f k b lo = _ := e1 k (by omega)
    have g2 : tribunalref02_subD.f k a t = _ := e2 k (by omega)
    have hw : IntKind.u16.wrap lo = lo := by rw [IntKind.wrap_u16]; omega
    show tribunalref02_digit.l0 (k + 1) a b lo lo = _
    rw [tribunalref02_digit.l0, if_neg (by omega), g1, Option.bind_some, g2, Option.bind_some, hw, hdiv]
  | succ m ih =>
    intro lo hi hm h0 h1 h2 h3 h4
    by_cases hlt : lo < hi
    · have hmid : (lo + hi + 1) % 4294967296 / 2 = (lo + hi + 1) / 2 := by omega
      have m1 : lo < (lo + hi + 1) / 2 := by omega
      have m2 : (lo + hi + 1) / 2 ≤ hi := by omega
      generalize hmd : (lo + hi + 1) / 2 = mid at *
      have hm1 : (mid - 1) % 4294967296 = mid - 1 := by omega
      obtain ⟨t, ⟨K1, e1⟩, ht⟩ := timesD_ev b mid (by omega) (by omega) hb.dig
      rw [hb.val] at ht
      have htl := times_len ht ⟨Int.le_of_lt hD, hDl⟩ (by omega)
      obtain ⟨K2, e2⟩ := tribunalref02_cmpD_ev t a (by omega) (by omega) ht.dig ha.dig ht.top ha.top
      rw [ht.val, ha.val] at e2
      by_cases hc : D * mid ≤ A
      · obtain ⟨r, ⟨K3, e3⟩, hr⟩ := ih mid hi (by omega) (by omega) m2 h2 hc h4
        refine ⟨r, ⟨K1 + K2 + K3 + 1, fun k hk => ?_⟩, hr⟩
        obtain ⟨k, rfl⟩ : ∃ j, k = j + 1 := ⟨k - 1, by omega⟩
        have g1 : tribunalref02_timesD.f k b mid = _ := e1 k (by omega)
        have g2 : tribunalref02_cmpD.f k t a = _ := e2 k (by omega)
        show tribunalref02_digit.l0 (k + 1) a b lo hi = _
        rw [tribunalref02_digit.l0, if_pos hlt, hmid, g1, Option.bind_some, g2, Option.bind_some, if_pos (sg_le.2 (by omega))]
        exact e3 k (by omega)
      · obtain ⟨r, ⟨K3, e3⟩, hr⟩ := ih lo (mid - 1) (by omega) h0 (by omega) (by omega) h3 (by rw [show mid - 1 + 1 = mid from by omega]; omega)
        refine ⟨r, ⟨K1 + K2 + K3 + 1, fun k hk => ?_⟩, hr⟩
        obtain ⟨k, rfl⟩ : ∃ j, k = j + 1 := ⟨k - 1, by omega⟩
        have g1 : tribunalref02_timesD.f k b mid = _ := e1 k (by omega)
        have g2 : tribunalref02_cmpD.f k t a = _ := e2 k (by omega)
        show tribunalref02_digit.l0 (k + 1) a b lo hi = _
        rw [tribunalref02_digit.l0, if_pos hlt, hmid, g1, Option.bind_some, g2, Option.bind_some, if_neg (fun x => hc (by have := sg_le.1 x; omega)), hm1]
        exact e3 k (by omega)
    · exact ih lo hi (by omega) h0 h1 h2 h3 h4
theorem digit_ev {A D : Int} {a b : List Int} (ha : Rep 65536 A a) (hb : Rep 65536 D b) (hD : 0 < D) (la : a.length ≤ 8388600) (lb : b.length ≤ 8388600) (hlt : A < D * 65536) :
    ∃ r, Ev (fun k => tribunalref02_digit.f k a b) (A / D, r) ∧ Rep 65536 (A % D) r := by
  have hA := ha.nonneg (by decide)
  obtain ⟨r, ⟨K, hr⟩, hq⟩ := digit_l0 ha hb hD la lb 65535 0 65535 (by omega) (by omega) (by omega) (by omega) (by omega) (by omega)
  refine ⟨r, ⟨K, fun k hk => ?_⟩, hq⟩
  show tribunalref02_digit.f k a b = _
  rw [tribunalref02_digit.f]
  exact hr k hk
theorem divD_l0 {D : Int} {b : List Int} (a : List Int) (hb : Rep 65536 D b) (hD : 0 < D) (hl : a.length ≤ 8388608) (lb : b.length ≤ 8388590) (da : Dig 65536 a) : ∀ (n : Nat) (q r : List Int) (R i : Int), n ≤ a.length → i = (n : Int) - 1 → q.length = a.length → Dig 65536 q → (∀ t, t < n → q.getD t 0 = 0) → Rep 65536 R r → R < D → val 65536 q * D + R * 65536 ^ n + val 65536 (a.take n) = val 65536 a →
    ∃ q2 r2, Ev (fun k => tribunalref02_divD.l0 k a b q r i) (q2, r2) ∧ Rep 65536 (val 65536 a / D) q2 ∧ Rep 65536 (val 65536 a % D) r2 := by
  have hDl := hb.lt (by decide)
  intro n
  induction n with
  | zero =>
    intro q r R i hn hi hq dq hz hr hR hv
    have hR0 := hr.nonneg (by decide)
    obtain ⟨q2, ⟨K, hK⟩, h1, h2, h3⟩ := tribunalref02_trim_ev (B := 65536) (l := q) (by omega) dq
    have hv' : val 65536 q * D + R = val 65536 a := by rw [← hv]; simp [val]
    have hdiv : val 65536 a / D = val 65536 q := div_eq hD (by omega) (by rw [Int.add_mul, Int.one_mul]; omega)
    have hmod : val 65536 a % D = R := by
      have h4 := Int.mul_ediv_add_emod (val 65536 a) D
      rw [hdiv, Int.mul_comm] at h4
      omega
    refine ⟨q2, r, ⟨K + 1, fun k hk => ?_⟩, ⟨h1, h2, by rw [h3, hdiv]⟩, by rw [hmod]; exact hr⟩
    obtain ⟨k, rfl⟩ : ∃ j, k = j + 1 := ⟨k - 1, by omega⟩
    have hk' : tribunalref02_trim.f k q = some q2 := hK k (by omega)
    show tribunalref02_divD.l0 (k + 1) a b q r i = _
    rw [tribunalref02_divD.l0, if_neg (by omega), hk', Option.bind_some]
  | succ n ih =>
    intro q r R i hn hi hq dq hz hr hR hv
    have hR0 := hr.nonneg (by decide)
    have hi' : i = (n : Int) := by omega
    subst hi'
    have ga := getD_dig (by decide) da n
    have hrl : r.length ≤ b.length := rep_len (by decide) hr (by omega)
    have dr : Dig 65536 (a.getD n 0 :: r) := Dig.cons.2 ⟨ga, hr.dig⟩
    obtain ⟨t, ⟨K1, e1⟩, h1, h2, h3⟩ := tribunalref02_trim_ev (B := 65536) (l := a.getD n 0 :: r) (by simp; omega) dr
    have ht : Rep 65536 (a.getD n 0 + 65536 * R) t := ⟨h1, h2, by rw [h3]; show a.getD n 0 + 65536 * val 65536 r = _; rw [hr.val]⟩
    have htl : t.length ≤ b.length + 1 := rep_len (by decide) ht (by rw [Int.pow_succ]; omega)
    obtain ⟨r', ⟨K2, e2⟩, hr'⟩ := digit_ev ht hb hD (by omega) (by omega) (by omega)
    have g1 := Int.mul_ediv_add_emod (a.getD n 0 + 65536 * R) D
    have g2 := Int.emod_nonneg (a.getD n 0 + 65536 * R) (Int.ne_of_gt hD)
    have g3 := Int.emod_lt_of_pos (a.getD n 0 + 65536 * R) hD
    have g4 : 0 ≤ (a.getD n 0 + 65536 * R) / D := Int.ediv_nonneg (by omega) (by omega)
    have g5 : (a.getD n 0 + 65536 * R) / D < 65536 := Int.ediv_lt_of_lt_mul hD (by omega)
    generalize (a.getD n 0 + 65536 * R) / D = g at *
    generalize hR' : (a.getD n 0 + 65536 * R) % D = R' at *
    clear hR'
    obtain ⟨q2, r2, ⟨K3, e3⟩, hq2⟩ := ih (q.set n g) r' R' ((n : Int) - 1) (by omega) rfl (by simp [hq]) (dq.set n ⟨g4, g5⟩) (fun t ht => by rw [getD_set_ne _ _ _ _ (by omega)]; exact hz t (by omega)) hr' g3 (by
      rw [← hv, val_set_getD _ _ _ _ (by omega), hz n (by omega), val_take_getD, Int.sub_zero, Int.pow_succ, Int.add_mul]
      generalize (65536 : Int) ^ n = W
      have x1 : g * W * D = D * g * W := by rw [Int.mul_comm (g * W), ← Int.mul_assoc]
      have x2 : R * (W * 65536) = 65536 * R * W := by rw [Int.mul_comm W, ← Int.mul_assoc, Int.mul_comm R]
      have x3 : (D * g + R') * W = (a.getD n 0 + 65536 * R) * W := by rw [g1]
      rw [Int.add_mul, Int.add_mul] at x3
      rw [x1, x2]
      omega)
    refine ⟨q2, r2, ⟨K1 + K2 + K3 + 1, fun k hk => ?_⟩, hq2⟩
    obtain ⟨k, rfl⟩ : ∃ j, k = j + 1 := ⟨k - 1, by omega⟩
    have f1 : tribunalref02_trim.f k ([a.getD n 0] ++ r) = some t := e1 k (by omega)
    have f2 : tribunalref02_digit.f k t b = _ := e2 k (by omega)
    have f3 := e3 k (by omega)
    show tribunalref02_divD.l0 (k + 1) a b q r (n : Int) = _
    rw [tribunalref02_divD.l0, if_pos (by omega), if_pos (by omega), if_pos (by omega), Option.bind_some, rd_getD, if_pos (by simp; omega), f1, Option.bind_some, f2, Option.bind_some, if_pos (by omega), Int.toNat_natCast, w64 _ (by omega)]
    exact f3
theorem divD_ev {A D : Int} {a b : List Int} (ha : Rep 65536 A a) (hb : Rep 65536 D b) (hD : 0 < D) (la : a.length ≤ 8388608) (lb : b.length ≤ 8388590) :
    ∃ q r, Ev (fun k => tribunalref02_divD.f k a b) (q, r) ∧ Rep 65536 (A / D) q ∧ Rep 65536 (A % D) r := by
  have hz : ∀ t, (List.replicate a.length (0 : Int)).getD t 0 = 0 := fun t => by
    simp [List.getD_eq_getElem?_getD, List.getElem?_replicate]; split <;> rfl
  obtain ⟨q2, r2, ⟨K, hK⟩, h1, h2⟩ := divD_l0 a hb hD la lb ha.dig a.length (List.replicate a.length 0) [] 0 ((a.length : Int) - 1) (Nat.le_refl _) rfl (by simp) (Dig.rep (by decide) _) (fun t _ => hz t) ⟨Dig.nil, trivial, rfl⟩ hD (by rw [val_replicate, List.take_length]; simp)
  rw [ha.val] at h1 h2
  refine ⟨q2, r2, ⟨K, fun k hk => ?_⟩, h1, h2⟩
  show tribunalref02_divD.f k a b = _
  rw [tribunalref02_divD.f, if_pos (by omega), Int.toNat_natCast, if_pos (by omega), w64 _ (by omega)]
  exact hK k hk
theorem toList_loop (bs : ByteArray) : ∀ (n i : Nat) (r : List UInt8), bs.size - i = n → ByteArray.toList.loop bs i r = r.reverse ++ bs.data.toList.drop i := by
  intro n
  induction n with
  | zero =>
    intro i r h
    rw [ByteArray.toList.loop, if_neg (by omega), List.drop_eq_nil_of_le (by show bs.data.size ≤ i; have : bs.size = bs.data.size := rfl; omega), List.append_nil]
  | succ n ih =>
    intro i r h
    have hi : i < bs.size := by omega
    have hi' : i < bs.data.toList.length := hi
    rw [ByteArray.toList.loop, if_pos hi, ih (i + 1) _ (by omega), List.drop_eq_getElem_cons hi', List.reverse_cons, List.append_assoc]
    have e : bs.get! i = bs.data.toList[i] := by
      show bs.data[i]! = _
      exact getElem!_pos bs.data i hi
    rw [e]; rfl
theorem ba_toList (l : List UInt8) : (ba l).toList = l := by
  show ByteArray.toList.loop (ba l) 0 [] = l
  rw [toList_loop (ba l) _ 0 [] rfl]
  rfl
theorem bt_ba (x : UInt8) (l : List UInt8) : bt (ba (x :: l)) 0 = (x.toNat : Int) := by
  unfold bt
  rw [dif_pos (by rw [ba_size]; simp)]
  rfl
theorem extract_ba (x : UInt8) (l : List UInt8) : (ba (x :: l)).extract 1 (ba (x :: l)).size = ba l := by
  have h : ((ba (x :: l)).extract 1 (ba (x :: l)).size).data = (ba l).data := by
    rw [ByteArray.data_extract, ba_size]
    simp [ba]
  generalize (ba (x :: l)).extract 1 (ba (x :: l)).size = y at *
  cases y
  simp only at h
  subst h
  rfl
def res (neg : Bool) (t : List UInt8) : ByteArray := if t = [] then ba [48] else if neg = true then ba (45 :: t) else ba t
theorem Text_j2 (neg : Bool) (l0 : List Int) (t : List UInt8) (ht : t.length ≤ 1000000000) (k : Nat) : tribunalref02_Text.j2 (k + 1) (ba t) neg l0 = some (res neg t) := by
  rw [tribunalref02_Text.j2, ba_toList]
  unfold res
  by_cases h : t = []
  · rw [if_pos h, if_pos h]; rfl
  · rw [if_neg h, if_neg h]
    cases neg with
    | true => rw [if_pos rfl, if_pos rfl, if_pos (by rw [ba_size]; omega), show (⟨#[45]⟩ : ByteArray) = ba [45] from rfl, ba_append]; rfl
    | false => rw [if_neg (by decide), if_neg (by decide)]
theorem Text_l1 (neg : Bool) (l0 : List Int) : ∀ (n : Nat) (t : List UInt8), t.length ≤ n → t.length ≤ 1000000000 → ∀ k, n + 1 < k → tribunalref02_Text.l1 k (ba t) neg l0 = some (res neg (Dec.strip t)) := by
  intro n
  induction n with
  | zero =>
    intro t h1 h2 k hk
    obtain ⟨k, rfl⟩ : ∃ j, k = j + 2 := ⟨k - 2, by omega⟩
    have : t = [] := List.length_eq_zero_iff.1 (by omega)
    subst this
    show tribunalref02_Text.l1 (k + 1 + 1) (ba []) neg l0 = _
    rw [tribunalref02_Text.l1, if_neg (by rw [ba_size]; simp), Text_j2 neg l0 [] (by simp) k]
    rfl
  | succ n ih =>
    intro t h1 h2 k hk
    obtain ⟨k, rfl⟩ : ∃ j, k = j + 2 := ⟨k - 2, by omega⟩
    show tribunalref02_Text.l1 (k + 1 + 1) (ba t) neg l0 = _
    match t, h1, h2 with
    | [], _, _ =>
      rw [tribunalref02_Text.l1, if_neg (by rw [ba_size]; simp), Text_j2 neg l0 [] (by simp) k]
      rfl
    | [x], _, _ =>
      rw [tribunalref02_Text.l1, if_neg (by rw [ba_size]; simp), Text_j2 neg l0 [x] (by simp) k]
      rfl
    | x :: y :: l, h1, h2 =>
      rw [tribunalref02_Text.l1, if_pos (by rw [ba_size]; simp; omega), if_pos (by rw [ba_size]; simp; omega), bt_ba]
      by_cases hx : x = 48
      · subst hx
        rw [if_pos (by rfl), if_pos (by rw [ba_size]; simp; omega), extract_ba, ih (y :: l) (by simp at h1 ⊢; omega) (by simp at h2 ⊢; omega) (k + 1) (by omega), Dec.strip, if_pos rfl]
      · have hx' : ¬ (x.toNat : Int) = 48 := by
          intro h
          apply hx
          have : x.toNat = 48 := by omega
          exact UInt8.toNat_inj.1 (by rw [this]; rfl)
        rw [if_neg hx', Text_j2 neg l0 _ h2 k, Dec.strip, if_neg hx]
theorem four_nil : strOfNums [48 + ((0 : Int) / 1000), 48 + (((0 : Int) / 100) % 10), 48 + (((0 : Int) / 10) % 10), 48 + ((0 : Int) % 10)] = ba (Dec.pad 4 0) := rfl
theorem four_digits (x : Nat) (hx : x < 10000) : strOfNums [(wrap64 (48 + (wrap64 (Int.tdiv (wrap64 (x : Int)) 1000)))) % 256, (wrap64 (48 + (Int.tmod (wrap64 (Int.tdiv (wrap64 (x : Int)) 100)) 10))) % 256, (wrap64 (48 + (Int.tmod (wrap64 (Int.tdiv (wrap64 (x : Int)) 10)) 10))) % 256, (wrap64 (48 + (Int.tmod (wrap64 (x : Int)) 10))) % 256] = ba (Dec.pad 4 x) := by
  rw [w64 (x : Int) (by omega), Int.tdiv_eq_ediv_of_nonneg (by omega), Int.tdiv_eq_ediv_of_nonneg (by omega), Int.tdiv_eq_ediv_of_nonneg (by omega), w64 ((x : Int) / 1000) (by omega), w64 ((x : Int) / 100) (by omega), w64 ((x : Int) / 10) (by omega), Int.tmod_eq_emod_of_nonneg (by omega), Int.tmod_eq_emod_of_nonneg (by omega), Int.tmod_eq_emod_of_nonneg (by omega), w64 _ (by omega), w64 _ (by omega), w64 _ (by omega), w64 _ (by omega)]
  unfold strOfNums ba
  simp only [List.map_cons, List.map_nil, Dec.pad, Dec.dgt, List.nil_append, List.cons_append]
  rw [show ((48 + (x : Int) / 1000) % 256).toNat = 48 + x / 10 / 10 / 10 % 10 from by omega, show ((48 + (x : Int) / 100 % 10) % 256).toNat = 48 + x / 10 / 10 % 10 from by omega, show ((48 + (x : Int) / 10 % 10) % 256).toNat = 48 + x / 10 % 10 from by omega, show ((48 + (x : Int) % 10) % 256).toNat = 48 + x % 10 from by omega]
theorem pad_push (w j x L : Nat) (hL : L < 10 ^ j) : Dec.pad w x ++ Dec.pad j L = Dec.pad (w + j) (x * 10 ^ j + L) := by
  have hp : 0 < 10 ^ j := Nat.pow_pos (by decide)
  rw [Dec.pad_add, ← Dec.pad_mod j (x * 10 ^ j + L)]
  have e1 : (x * 10 ^ j + L) / 10 ^ j = x := by
    rw [Nat.mul_comm, Nat.mul_add_div hp, Nat.div_eq_of_lt hL, Nat.add_zero]
  have e2 : (x * 10 ^ j + L) % 10 ^ j = L := by
    rw [Nat.mul_comm, Nat.mul_add_mod, Nat.mod_eq_of_lt hL]
  rw [e1, e2]
theorem Text_l0 (neg : Bool) (l0 : List Int) (N X : Nat) (hX : X ≤ 100000000) (hN : N < 10 ^ (4 * X)) : ∀ (m : Nat) (d : List Int) (D j L : Nat), D ≤ m → Rep 65536 (D : Int) d → d.length ≤ 8388590 → N = D * 10 ^ (4 * j) + L → L < 10 ^ (4 * j) → (N = 0 → j = 0) → j ≤ X →
    Ev (fun k => tribunalref02_Text.l0 k (ba (Dec.pad (4 * j) L)) d neg l0) (res neg (if N = 0 then [] else Lib.decDigits N)) := by
  intro m
  induction m using Nat.strongRecOn with
  | ind m ih =>
    intro d D j L hm hd hdl hND hL h0 hjX
    by_cases hD : D = 0
    · have hdn : d = [] := (hd.nil_iff (by decide)).2 (by omega)
      have hNL : N = L := by rw [hND, hD]; omega
      have hlen : (Dec.pad (4 * j) L).length = 4 * j := Dec.pad_length _ _
      refine ⟨4 * j + 4, fun k hk => ?_⟩
      obtain ⟨k, rfl⟩ : ∃ i, k = i + 1 := ⟨k - 1, by omega⟩
      show tribunalref02_Text.l0 (k + 1) (ba (Dec.pad (4 * j) L)) d neg l0 = _
      rw [tribunalref02_Text.l0, hdn, if_neg (by simp), Text_l1 neg l0 (4 * j) _ (by omega) (by omega) k (by omega)]
      by_cases hN0 : N = 0
      · have := h0 hN0
        subst this
        rw [if_pos hN0]; rfl
      · rw [if_neg hN0, hNL, Dec.strip_pad (4 * j) L (by omega) hL]
    · have hbase : Rep 65536 10000 [10000] := ⟨by rw [Dig.cons]; exact ⟨by decide, Dig.nil⟩, by simp [Top], by simp [val]⟩
      obtain ⟨q, r, ⟨K1, e1⟩, hq, hr⟩ := divD_ev hd hbase (by decide) (by omega) (by simp)
      have hq' : Rep 65536 ((D / 10000 : Nat) : Int) q := by
        have e : ((D / 10000 : Nat) : Int) = (D : Int) / 10000 := by omega
        rw [e]; exact hq
      have hrl : r.length ≤ 1 := rep_len (by decide) hr (by omega)
      have hP : 0 < 10 ^ (4 * j) := Nat.pow_pos (by decide)
      have hNpos : 0 < N := by
        have := Nat.mul_le_mul (show 1 ≤ D by omega) (show 1 ≤ 10 ^ (4 * j) by omega)
        omega
      have hjlt : j < X := by
        refine Classical.byContradiction fun hx => ?_
        have h1 : 10 ^ (4 * X) ≤ 10 ^ (4 * j) := Nat.pow_le_pow_right (by decide) (by omega)
        have h2 := Nat.mul_le_mul_right (10 ^ (4 * j)) (show 1 ≤ D by omega)
        omega
      have hpow : 10 ^ (4 * (j + 1)) = 10000 * 10 ^ (4 * j) := by rw [show 4 * (j + 1) = 4 * j + 4 from by omega, Nat.pow_add, Nat.mul_comm]
      have hx : D % 10000 < 10000 := Nat.mod_lt _ (by decide)
      have hL' : D % 10000 * 10 ^ (4 * j) + L < 10 ^ (4 * (j + 1)) := by
        have h1 := Nat.mul_le_mul_right (10 ^ (4 * j)) (show D % 10000 + 1 ≤ 10000 by omega)
        rw [Nat.add_mul, Nat.one_mul] at h1
        rw [hpow]; omega
      have hN' : N = D / 10000 * 10 ^ (4 * (j + 1)) + (D % 10000 * 10 ^ (4 * j) + L) := by
        have h1 : D = D / 10000 * 10000 + D % 10000 := by omega
        have h2 : D * 10 ^ (4 * j) = (D / 10000 * 10000 + D % 10000) * 10 ^ (4 * j) := by rw [← h1]
        rw [hND, h2, hpow, Nat.add_mul, ← Nat.mul_assoc, Nat.add_assoc]
      have hlq := rep_len (B := 65536) (by decide) hq (m := d.length) (by
        have h1 := hd.lt (by decide)
        have h2 := Int.ediv_le_self 10000 (show (0 : Int) ≤ (D : Int) by omega)
        exact Int.lt_of_le_of_lt h2 h1)
      obtain ⟨K2, e2⟩ := ih (D / 10000) (by omega) q (D / 10000) (j + 1) (D % 10000 * 10 ^ (4 * j) + L) (Nat.le_refl _) hq' (by omega) hN' hL' (fun hz => absurd hz (by omega)) (by omega)
      have hs : ba (Dec.pad 4 (D % 10000)) ++ ba (Dec.pad (4 * j) L) = ba (Dec.pad (4 * (j + 1)) (D % 10000 * 10 ^ (4 * j) + L)) := by
        rw [ba_append, pad_push 4 (4 * j) _ L hL, show 4 + 4 * j = 4 * (j + 1) from by omega]
      have hsz : (ba (Dec.pad 4 (D % 10000))).size + (ba (Dec.pad (4 * j) L)).size ≤ 9223372036854775807 := by
        rw [ba_size, ba_size, Dec.pad_length, Dec.pad_length]; omega
      have hdl1 : (d.length : Int) > 0 := by
        have := (hd.pos_iff (by decide)).2 (by omega)
        omega
      refine ⟨K1 + K2 + 1, fun k hk => ?_⟩
      obtain ⟨k, rfl⟩ : ∃ i, k = i + 1 := ⟨k - 1, by omega⟩
      have g1 : tribunalref02_divD.f k d [10000] = _ := e1 k (by omega)
      have g2 := e2 k (by omega)
      show tribunalref02_Text.l0 (k + 1) (ba (Dec.pad (4 * j) L)) d neg l0 = _
      rw [tribunalref02_Text.l0, if_pos hdl1, g1, Option.bind_some]
      match r, hr, hrl with
      | [], hr, _ =>
        have hr0 : D % 10000 = 0 := by have := hr.val; simp [val] at this; omega
        rw [hr0] at hsz hs
        rw [if_neg (by simp), Option.bind_some, four_nil, if_pos hsz, hs]
        rw [hr0] at g2
        exact g2
      | [x], hr, _ =>
        have hxv : x = ((D % 10000 : Nat) : Int) := by have := hr.val; simp [val] at this; omega
        subst hxv
        have hrd : rd [((D % 10000 : Nat) : Int)] 0 = ((D % 10000 : Nat) : Int) := rfl
        rw [if_pos (by simp), if_pos (by simp), Option.bind_some, hrd, four_digits _ hx, if_pos hsz, hs]
        exact g2
      | _ :: _ :: _, _, h => exact absurd h (by simp)
theorem byLimb_l0 (a : List Int) (d : Int) (hd : 0 < d ∧ d < 18446744073709551616) (hl : a.length ≤ 8388608) (da : Dig 18446744073709551616 a) : ∀ (n : Nat) (q : List Int) (r i : Int), n ≤ a.length → i = (n : Int) - 1 → q.length = a.length → Dig 18446744073709551616 q → (∀ t, t < n → q.getD t 0 = 0) → 0 ≤ r ∧ r < d → val 18446744073709551616 q * d + r * 18446744073709551616 ^ n + val 18446744073709551616 (a.take n) = val 18446744073709551616 a →
    ∃ q2 r2, Ev (fun k => whole_amount_byLimb.l0 k a d q r i) (q2, r2) ∧ Rep 18446744073709551616 (val 18446744073709551616 a / d) q2 ∧ r2 = val 18446744073709551616 a % d := by
  intro n
  induction n with
  | zero =>
    intro q r i hn hi hq dq hz hr hv
    obtain ⟨q2, ⟨K, hK⟩, h1, h2, h3⟩ := whole_trimmed_ev (B := 18446744073709551616) (l := q) (by omega) dq
    have hv' : val 18446744073709551616 q * d + r = val 18446744073709551616 a := by
      rw [← hv]; simp [val]
    have hdiv : val 18446744073709551616 a / d = val 18446744073709551616 q := div_eq hd.1 (by omega) (by rw [Int.add_mul, Int.one_mul]; omega)
    refine ⟨q2, r, ⟨K + 1, fun k hk => ?_⟩, ⟨h1, h2, by rw [h3, hdiv]⟩, ?_⟩
    · obtain ⟨k, rfl⟩ : ∃ j, k = j + 1 := ⟨k - 1, by omega⟩
      have hk' : whole_trimmed.f k q = some q2 := hK k (by omega)
      show whole_amount_byLimb.l0 (k + 1) a d q r i = _
      rw [whole_amount_byLimb.l0, if_neg (by omega), hk', Option.bind_some]
    · have h4 := Int.mul_ediv_add_emod (val 18446744073709551616 a) d
      rw [hdiv, Int.mul_comm] at h4
      omega
  | succ n ih =>
    intro q r i hn hi hq dq hz hr hv
    have hi' : i = (n : Int) := by omega
    subst hi'
    have ga := getD_dig (by decide) da n
    obtain ⟨K, hK⟩ := Div64_ev (a0 := r) (a1 := a.getD n 0) (a2 := d) hr ga hd.2
    have h1 := Int.mul_ediv_add_emod (r * 18446744073709551616 + a.getD n 0) d
    have h2 := Int.emod_nonneg (r * 18446744073709551616 + a.getD n 0) (Int.ne_of_gt hd.1)
    have h3 := Int.emod_lt_of_pos (r * 18446744073709551616 + a.getD n 0) hd.1
    have h4 : 0 ≤ (r * 18446744073709551616 + a.getD n 0) / d := Int.ediv_nonneg (by omega) (by omega)
    have h5 : (r * 18446744073709551616 + a.getD n 0) / d < 18446744073709551616 := Int.ediv_lt_of_lt_mul hd.1 (by omega)
    generalize (r * 18446744073709551616 + a.getD n 0) / d = g at *
    generalize hr' : (r * 18446744073709551616 + a.getD n 0) % d = r' at *
    clear hr'
    obtain ⟨q2, r2, ⟨J, hJ⟩, hq2⟩ := ih (q.set n g) r' ((n : Int) - 1) (by omega) rfl (by simp [hq]) (dq.set n ⟨h4, h5⟩) (fun t ht => by rw [getD_set_ne _ _ _ _ (by omega)]; exact hz t (by omega)) ⟨h2, h3⟩ (by
      rw [← hv, val_set_getD _ _ _ _ (by omega), hz n (by omega), val_take_getD, Int.sub_zero, Int.pow_succ, Int.add_mul]
      generalize (18446744073709551616 : Int) ^ n = W
      have e1 : g * W * d = d * g * W := by rw [Int.mul_comm (g * W), ← Int.mul_assoc]
      have e2 : r * (W * 18446744073709551616) = r * 18446744073709551616 * W := by rw [Int.mul_comm W, ← Int.mul_assoc]
      have e3 : (d * g + r') * W = (r * 18446744073709551616 + a.getD n 0) * W := by rw [h1]
      rw [Int.add_mul, Int.add_mul] at e3
      rw [e1, e2]
      omega)
    refine ⟨q2, r2, ⟨K + J + 1, fun k hk => ?_⟩, hq2⟩
    obtain ⟨k, rfl⟩ : ∃ j, k = j + 1 := ⟨k - 1, by omega⟩
    have e1 : bits_Div64.f k r (a.getD n 0) d = _ := hK k (by omega)
    have e2 := hJ k (by omega)
    show whole_amount_byLimb.l0 (k + 1) a d q r (n : Int) = _
    rw [whole_amount_byLimb.l0, if_pos (by omega), if_pos (by omega), if_pos (by omega), rd_getD, e1, Option.bind_some, if_pos (by omega), Int.toNat_natCast, w64 _ (by omega)]
    exact e2
theorem byLimb_ev (a : List Int) (d : Int) (hd : 0 < d ∧ d < 18446744073709551616) (hl : a.length ≤ 8388608) (da : Dig 18446744073709551616 a) :
    ∃ q2, Ev (fun k => whole_amount_byLimb.f k a d) (q2, val 18446744073709551616 a % d) ∧ Rep 18446744073709551616 (val 18446744073709551616 a / d) q2 := by
  have hz : ∀ t, (List.replicate a.length (0 : Int)).getD t 0 = 0 := fun t => by
    simp [List.getD_eq_getElem?_getD, List.getElem?_replicate]; split <;> rfl
  obtain ⟨q2, r2, ⟨K, hK⟩, h1, h2⟩ := byLimb_l0 a d hd hl da a.length (List.replicate a.length 0) 0 ((a.length : Int) - 1) (Nat.le_refl _) rfl (by simp) (Dig.rep (by decide) _) (fun t _ => hz t) (by omega) (by rw [val_replicate, List.take_length]; simp)
  subst h2
  refine ⟨q2, ⟨K, fun k hk => ?_⟩, h1⟩
  show whole_amount_byLimb.f k a d = _
  rw [whole_amount_byLimb.f, if_pos (by omega), Int.toNat_natCast, if_pos (by omega), w64 _ (by omega)]
  exact hK k hk
end Go.Proofs.YtodhkpdcpneeeaaDoor.PurePPr
namespace Go.Proofs.YtodhkpdcpneeeaaDoor.PurePPr
set_option linter.unusedVariables false
set_option linter.unusedSimpArgs false
open Go.RowKit Go.Proofs.YtodhkpdcpneeeaaDoorW.PrintWords Go.Proofs.YtodhkpdcpneeeaaDoorW.PrintLast Go.Proofs.YtodhkpdcpneeeaaDoorW.PrintMore Go.Proofs.YtodhkpdcpneeeaaDoor.PPr Go.Proofs.YtodhkpdcpneeeaaDoor Go.Proofs.YtodhkpdcpneeeaaDoor.Mine Big
theorem dec_join (q w L : Nat) (hq : 0 < q) (hL : L < 10 ^ w) : Lib.decDigits (q * 10 ^ w + L) = Lib.decDigits q ++ Dec.pad w L := by
  have h := Dec.nDigits_mul q hq w L hL
  have hp : 0 < 10 ^ w := Nat.pow_pos (by decide)
  have e1 : (q * 10 ^ w + L) / 10 ^ w = q := by rw [Nat.mul_comm, Nat.mul_add_div hp, Nat.div_eq_of_lt hL, Nat.add_zero]
  have e2 : (q * 10 ^ w + L) % 10 ^ w = L := by rw [Nat.mul_comm, Nat.mul_add_mod, Nat.mod_eq_of_lt hL]
  rw [Dec.dec_pad (q * 10 ^ w + L), h, Dec.pad_add, e1, ← Dec.pad_mod w (q * 10 ^ w + L), e2, ← Dec.dec_pad]
theorem pad_dec (w r : Nat) (hw : 1 ≤ w) (hr : r < 10 ^ w) : List.replicate (w - (Lib.decDigits r).length) 48 ++ Lib.decDigits r = Dec.pad w r := by
  have hnd := Dec.nDigits_le r w hw hr
  rw [Lib.decDigits_length, Dec.dec_pad, ← Dec.pad_lead _ _ _ (Lib.lt_pow_nDigits r), show w - Lib.nDigits r + Lib.nDigits r = w from by omega]
theorem null_nil : whole_amount_null.f [] = some true := rfl
theorem null_cons {l : List Int} (h : l ≠ []) : whole_amount_null.f l = some false := by
  cases l with
  | nil => exact absurd rfl h
  | cons x l =>
    show some (((x :: l).length : Int) == 0) = some false
    rw [show (((x :: l).length : Int) == 0) = false from by simp; omega]
theorem map_ba_snoc (ps : List (List UInt8)) (t : List UInt8) : ps.map ba ++ [ba t] = (ps ++ [t]).map ba := by simp
theorem Print_end (neg : Bool) (x0 : List Int) (ps : List (List UInt8)) (t : List UInt8) (hps : ps ≠ []) (hl : ps.length ≤ 1000000) (ht : ps.reverse.flatten = t) (hne : t ≠ []) (htl : t.length ≤ 100000000) :
    Ev (fun k => whole_Print.l0 k (ps.map ba) [] x0 neg) (res neg t, 0) := by
  have hlen : ¬ ((ps.map ba).length : Int) = 0 := by
    rw [List.length_map]
    intro h
    exact hps (List.length_eq_zero_iff.1 (by omega))
  have hlt : (ps.map ba).length < 8796093022208 := by rw [List.length_map]; omega
  cases neg with
  | true =>
    obtain ⟨K, hK⟩ := rev_ev ((ps ++ [[45]]).map ba) (by simp; omega)
    refine ⟨K + 1, fun k hk => ?_⟩
    obtain ⟨k, rfl⟩ : ∃ i, k = i + 1 := ⟨k - 1, by omega⟩
    have g : slices_Reverse_string_string.f k ((ps ++ [[45]]).map ba) = _ := hK k (by omega)
    have hj : joined ((ps ++ [[45]]).map ba).reverse (⟨#[]⟩ : ByteArray) = ba (45 :: t) := by
      rw [← List.map_reverse]
      refine (joined_ba _).trans ?_
      rw [List.reverse_append, List.flatten_append, ht]
      rfl
    show whole_Print.l0 (k + 1) (ps.map ba) [] x0 true = _
    rw [whole_Print.l0, null_nil, Option.bind_some, if_pos rfl, if_neg hlen, if_pos rfl, if_pos hlt, show (⟨#[45]⟩ : ByteArray) = ba [45] from rfl, map_ba_snoc, g, Option.bind_some, strings_Join.f, hj, if_pos (by rw [ba_size]; simp; omega), Option.bind_some]
    unfold res
    rw [if_neg hne, if_pos rfl]
  | false =>
    obtain ⟨K, hK⟩ := rev_ev (ps.map ba) (by simp; omega)
    refine ⟨K + 1, fun k hk => ?_⟩
    obtain ⟨k, rfl⟩ : ∃ i, k = i + 1 := ⟨k - 1, by omega⟩
    have g : slices_Reverse_string_string.f k (ps.map ba) = _ := hK k (by omega)
    have hj : joined (ps.map ba).reverse (⟨#[]⟩ : ByteArray) = ba t := by
      rw [← List.map_reverse]
      refine (joined_ba _).trans ?_
      rw [ht]
    show whole_Print.l0 (k + 1) (ps.map ba) [] x0 false = _
    rw [whole_Print.l0, null_nil, Option.bind_some, if_pos rfl, if_neg hlen, if_neg (by decide), g, Option.bind_some, strings_Join.f, hj, if_pos (by rw [ba_size]; simp; omega), Option.bind_some]
    unfold res
    rw [if_neg hne, if_neg (by decide)]
theorem dec_ne (n : Nat) : Lib.decDigits n ≠ [] := by
  intro h
  have h1 := Lib.decDigits_length n
  have h2 := Dec.nDigits_pos n
  rw [h] at h1
  simp at h1
  omega
theorem Print_l0 (neg : Bool) (x0 : List Int) (N X : Nat) (hX : X ≤ 100000) (hX1 : 1 ≤ X) (hN : N < 10 ^ (18 * X)) : ∀ (m : Nat) (d : List Int) (D j L : Nat) (ps : List (List UInt8)), D ≤ m → 0 < D → Rep 18446744073709551616 (D : Int) d → d.length ≤ 8388590 → N = D * 10 ^ (18 * j) + L → L < 10 ^ (18 * j) → ps.length = j → ps.reverse.flatten = Dec.pad (18 * j) L →
    Ev (fun k => whole_Print.l0 k (ps.map ba) d x0 neg) (res neg (Lib.decDigits N), 0) := by
  intro m
  induction m using Nat.strongRecOn with
  | ind m ih =>
    intro d D j L ps hm hD hd hdl hND hL hj hps
    have hdn : d ≠ [] := fun h => by have := (hd.nil_iff (by decide)).1 h; omega
    obtain ⟨q, ⟨K1, e1⟩, hq⟩ := byLimb_ev d 1000000000000000000 (by decide) (by omega) hd.dig
    rw [hd.val] at hq e1
    have hq' : Rep 18446744073709551616 ((D / 1000000000000000000 : Nat) : Int) q := by
      have e : ((D / 1000000000000000000 : Nat) : Int) = (D : Int) / 1000000000000000000 := by omega
      rw [e]; exact hq
    have hP : 0 < 10 ^ (18 * j) := Nat.pow_pos (by decide)
    have hNpos : 0 < N := by
      have := Nat.mul_le_mul (show 1 ≤ D by omega) (show 1 ≤ 10 ^ (18 * j) by omega)
      omega
    have hjlt : j < X := by
      refine Classical.byContradiction fun hx => ?_
      have h1 : 10 ^ (18 * X) ≤ 10 ^ (18 * j) := Nat.pow_le_pow_right (by decide) (by omega)
      have h2 := Nat.mul_le_mul_right (10 ^ (18 * j)) (show 1 ≤ D by omega)
      omega
    have hr1 : (D : Int) % 1000000000000000000 = ((D % 1000000000000000000 : Nat) : Int) := by omega
    have hr2 : D % 1000000000000000000 < 1000000000000000000 := Nat.mod_lt _ (by decide)
    have hfmt : strconv_FormatUintG.f ((D : Int) % 1000000000000000000) 10 = some (ba (Lib.decDigits (D % 1000000000000000000))) := by
      unfold strconv_FormatUintG.f
      rw [if_pos ⟨rfl, by omega, by omega⟩, hr1, Int.toNat_natCast]
      rfl
    have hps8 : (ps.map ba).length < 8796093022208 := by rw [List.length_map]; omega
    by_cases hz : D / 1000000000000000000 = 0
    · have hqn : q = [] := (hq'.nil_iff (by decide)).2 (by omega)
      have hDs : D % 1000000000000000000 = D := by omega
      rw [hDs] at hfmt
      obtain ⟨K2, e2⟩ := Print_end neg x0 (ps ++ [Lib.decDigits D]) (Lib.decDigits N) (by simp) (by simp; omega) (by
        rw [List.reverse_append, List.flatten_append, hps, hND, dec_join D (18 * j) L hD hL]
        simp) (dec_ne N) (by
        rw [Lib.decDigits_length]
        have := Dec.nDigits_le N (18 * X) (by omega) hN
        omega)
      refine ⟨K1 + K2 + 1, fun k hk => ?_⟩
      obtain ⟨k, rfl⟩ : ∃ i, k = i + 1 := ⟨k - 1, by omega⟩
      have g1 : whole_amount_byLimb.f k d 1000000000000000000 = _ := e1 k (by omega)
      have g2 : whole_Print.l0 k ((ps ++ [Lib.decDigits D]).map ba) [] x0 neg = _ := e2 k (by omega)
      show whole_Print.l0 (k + 1) (ps.map ba) d x0 neg = _
      rw [whole_Print.l0, null_cons hdn, Option.bind_some, if_neg (by decide), g1, Option.bind_some, hfmt, Option.bind_some, hqn, null_nil, Option.bind_some, if_pos rfl, if_pos hps8, map_ba_snoc, g2]
    · have hqn : q ≠ [] := fun h => by have := (hq'.nil_iff (by decide)).1 h; omega
      obtain ⟨r, hr⟩ : ∃ r, r = D % 1000000000000000000 := ⟨_, rfl⟩
      obtain ⟨q0, hq0⟩ : ∃ q0, q0 = D / 1000000000000000000 := ⟨_, rfl⟩
      rw [← hr] at hfmt hr2
      rw [← hq0] at hq' hz
      have hDe : D = q0 * 1000000000000000000 + r := by omega
      have hpad := pad_dec 18 r (by decide) (by omega)
      have hlen : (Lib.decDigits r).length ≤ 18 := by
        rw [Lib.decDigits_length]; exact Dec.nDigits_le r 18 (by decide) (by omega)
      have hrep : strings_RepeatG.f (⟨#[48]⟩ : ByteArray) (wrap64 (18 - ((ba (Lib.decDigits r)).size : Int))) = some (ba (List.replicate (18 - (Lib.decDigits r).length) 48)) := by
        rw [ba_size, w64 _ (by omega), show (18 : Int) - ((Lib.decDigits r).length : Int) = ((18 - (Lib.decDigits r).length : Nat) : Int) from by omega]
        unfold strings_RepeatG.f
        rw [Int.toNat_natCast, if_pos ⟨by omega, by omega, by show 1 * _ ≤ _; omega⟩, show (⟨#[48]⟩ : ByteArray).data.toList = [48] from rfl, repeat_48]
        rfl
      have hs : ba (List.replicate (18 - (Lib.decDigits r).length) 48) ++ ba (Lib.decDigits r) = ba (Dec.pad 18 r) := by rw [ba_append, hpad]
      have hsz : (ba (List.replicate (18 - (Lib.decDigits r).length) 48)).size + (ba (Lib.decDigits r)).size ≤ 9223372036854775807 := by
        rw [ba_size, ba_size, List.length_replicate]; omega
      have hpow : 10 ^ (18 * (j + 1)) = 1000000000000000000 * 10 ^ (18 * j) := by rw [show 18 * (j + 1) = 18 * j + 18 from by omega, Nat.pow_add, Nat.mul_comm]
      have hL' : r * 10 ^ (18 * j) + L < 10 ^ (18 * (j + 1)) := by
        have h1 := Nat.mul_le_mul_right (10 ^ (18 * j)) (show r + 1 ≤ 1000000000000000000 by omega)
        rw [Nat.add_mul, Nat.one_mul] at h1
        rw [hpow]; omega
      have hN' : N = q0 * 10 ^ (18 * (j + 1)) + (r * 10 ^ (18 * j) + L) := by
        rw [hND, hDe, hpow, Nat.add_mul, ← Nat.mul_assoc, Nat.add_assoc]
      have hlq := rep_len (B := 18446744073709551616) (by decide) hq' (m := d.length) (by
        have h1 := hd.lt (by decide)
        exact Int.lt_of_le_of_lt (by omega) h1)
      obtain ⟨K2, e2⟩ := ih q0 (by omega) q q0 (j + 1) (r * 10 ^ (18 * j) + L) (ps ++ [Dec.pad 18 r]) (Nat.le_refl _) (by omega) hq' (by omega) hN' hL' (by simp; omega) (by
        rw [List.reverse_append, List.flatten_append, hps, show 18 * (j + 1) = 18 + 18 * j from by omega, ← pad_push 18 (18 * j) r L hL]
        simp)
      refine ⟨K1 + K2 + 1, fun k hk => ?_⟩
      obtain ⟨k, rfl⟩ : ∃ i, k = i + 1 := ⟨k - 1, by omega⟩
      have g1 : whole_amount_byLimb.f k d 1000000000000000000 = _ := e1 k (by omega)
      have g2 : whole_Print.l0 k ((ps ++ [Dec.pad 18 r]).map ba) q x0 neg = _ := e2 k (by omega)
      show whole_Print.l0 (k + 1) (ps.map ba) d x0 neg = _
      rw [whole_Print.l0, null_cons hdn, Option.bind_some, if_neg (by decide), g1, Option.bind_some, hfmt, Option.bind_some, null_cons hqn, Option.bind_some, if_neg (by decide), hrep, Option.bind_some, if_pos hsz, if_pos hps8, hs, map_ba_snoc, g2]
theorem big_lt (w c : Nat) (hw : 18446744073709551616 ≤ 10 ^ (w * c)) {n : Nat} {r : List Int} (hr : Rep 18446744073709551616 (n : Int) r) : n < 10 ^ (w * (c * r.length)) := by
  have h1 := hr.lt (by decide)
  have h2 : (n : Int) < ((18446744073709551616 ^ r.length : Nat) : Int) := by rw [Int.natCast_pow]; exact h1
  have h3 : n < 18446744073709551616 ^ r.length := Int.ofNat_lt.1 h2
  have h4 := Nat.pow_le_pow_left hw r.length
  rw [← Nat.pow_mul, Nat.mul_assoc] at h4
  exact Nat.lt_of_lt_of_le h3 h4
theorem Print_ev (s : Bool) (l : List Int) (hl : l.length ≤ 1048576) (hd : Dig 18446744073709551616 l) :
    ∃ x, Ev (fun k => whole_Print.f k s l) x ∧ Ev (fun k => tribunalref02_Print.f k s l) x := by
  obtain ⟨n, t, r, d, ⟨K1, e1⟩, ⟨J1, f1⟩, N1, M1, l1, k1⟩ := arg_num s l hl hd
  obtain ⟨_, _, _, hlong⟩ := len_le N1.rep.dig N1.rep.top M1.rep.dig M1.rep.top (N1.rep.val.trans M1.rep.val.symm)
  by_cases hx : r.length > 4096
  · refine ⟨(⟨#[]⟩, 5), ⟨K1, fun k hk => ?_⟩, ⟨J1, fun k hk => ?_⟩⟩
    · have g1 : whole_of.f k s l = _ := e1 k hk
      show whole_Print.f k s l = _
      rw [whole_Print.f, g1, Option.bind_some, whole_number_long.f, Option.bind_some, if_pos (decide_eq_true (by show (r.length : Int) > 4096; omega))]
    · have g1 : tribunalref02_From.f k s l = _ := f1 k hk
      show tribunalref02_Print.f k s l = _
      have := hlong.1 hx
      rw [tribunalref02_Print.f, g1, Option.bind_some, tribunalref02_long.f, Option.bind_some, if_pos (decide_eq_true (by show (d.length : Int) > 16384; omega))]
  · have hx2 : ¬ d.length > 16384 := fun h => hx (hlong.2 h)
    have hR := N1.rep
    have hM := M1.rep
    obtain ⟨N, hN⟩ : ∃ N, N = n.natAbs := ⟨_, rfl⟩
    rw [← hN] at hR hM
    have b4 := big_lt 4 5 (by decide) hR
    have b18 := big_lt 18 2 (by decide) hR
    obtain ⟨J2, f2⟩ := Text_l0 t d N (5 * r.length) (by omega) b4 N d N 0 0 (Nat.le_refl _) hM (by omega) (by simp) (by decide) (fun _ => rfl) (by omega)
    have hT : Ev (fun k => tribunalref02_Print.f k s l) (res t (if N = 0 then [] else Lib.decDigits N), 0) := by
      refine ⟨J1 + J2, fun k hk => ?_⟩
      have g1 : tribunalref02_From.f k s l = _ := f1 k (by omega)
      have g2 : tribunalref02_Text.l0 k (⟨#[]⟩ : ByteArray) d t d = _ := f2 k (by omega)
      show tribunalref02_Print.f k s l = _
      rw [tribunalref02_Print.f, g1, Option.bind_some, tribunalref02_long.f, Option.bind_some, if_neg (by simp; omega), tribunalref02_Text.f, g2, Option.bind_some]
    refine ⟨_, ?_, hT⟩
    by_cases h0 : N = 0
    · have hrn : r = [] := (hR.nil_iff (by decide)).2 (by omega)
      rw [if_pos h0]
      refine ⟨K1 + 1, fun k hk => ?_⟩
      have g1 : whole_of.f k s l = _ := e1 k (by omega)
      obtain ⟨k, rfl⟩ : ∃ i, k = i + 1 := ⟨k - 1, by omega⟩
      show whole_Print.f (k + 1) s l = _
      rw [whole_Print.f, g1, Option.bind_some, whole_number_long.f, Option.bind_some, if_neg (by simp; omega), hrn, whole_Print.l0, null_nil, Option.bind_some, if_pos rfl, if_pos (by rfl)]
      rfl
    · have hr1 : 1 ≤ r.length := by
        have := (hR.pos_iff (by decide)).2 (by omega)
        omega
      rw [if_neg h0]
      obtain ⟨K2, e2⟩ := Print_l0 t r N (2 * r.length) (by omega) (by omega) b18 N r N 0 0 [] (Nat.le_refl _) (by omega) hR (by omega) (by simp) (by decide) rfl rfl
      refine ⟨K1 + K2, fun k hk => ?_⟩
      have g1 : whole_of.f k s l = _ := e1 k (by omega)
      have g2 : whole_Print.l0 k [] r r t = _ := e2 k (by omega)
      show whole_Print.f k s l = _
      rw [whole_Print.f, g1, Option.bind_some, whole_number_long.f, Option.bind_some, if_neg (by simp; omega), g2]
end Go.Proofs.YtodhkpdcpneeeaaDoor.PurePPr
namespace Go.Proofs.YtodhkpdcpneeeaaDoor.Pure
open Go.RowKit Go.Proofs.YtodhkpdcpneeeaaDoorW.PrintWords Go.Proofs.YtodhkpdcpneeeaaDoorW.PrintLast Go.Proofs.YtodhkpdcpneeeaaDoorW.PrintMore Go.Proofs.YtodhkpdcpneeeaaDoor.PPr Go.Proofs.YtodhkpdcpneeeaaDoor Go.Proofs.YtodhkpdcpneeeaaDoor.Mine Big PurePPr
theorem wholePrints_pure (a : Bool) (x : List Int) (hx : x.length ≤ 1048576) (wx : ∀ z ∈ x, (Lit.int .u64 z).wf = true) : ∃ k, PPr.tribunallaw02_WholePrints.f k a x = some true := by
  obtain ⟨⟨t, e⟩, ⟨K1, e1⟩, ⟨K2, e2⟩⟩ := Print_ev a x hx (dig_of_wf wx)
  obtain ⟨K3, e3⟩ := awake_ev
  obtain ⟨k, h1, h2, h3⟩ : ∃ k, K1 ≤ k ∧ K2 ≤ k ∧ K3 ≤ k := ⟨K1 + K2 + K3, by omega, by omega, by omega⟩
  refine ⟨k, ?_⟩
  have g1 : whole_Print.f k a x = _ := e1 k h1
  have g2 : tribunalref02_Print.f k a x = _ := e2 k h2
  have g3 : tribunallaw02_awake.f k = _ := e3 k h3
  rw [tribunallaw02_WholePrints.f, g1, Option.bind_some, g2, Option.bind_some, if_pos rfl, if_pos rfl, g3, Option.bind_some]
end Go.Proofs.YtodhkpdcpneeeaaDoor.Pure
