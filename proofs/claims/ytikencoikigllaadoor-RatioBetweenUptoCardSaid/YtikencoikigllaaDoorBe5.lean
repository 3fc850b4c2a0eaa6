/- Part 5 of what the card rests on. -/
import Derived.OpenShut
import Derived.Test.YtikencoikigllaaDoorBe4
set_option maxHeartbeats 8000000
set_option maxRecDepth 100000
set_option linter.unusedVariables false
set_option linter.unusedSimpArgs false
namespace Go.Proofs.YtikencoikigllaaDoor.Big
structure Num (B n : Int) (s : Bool) (l : List Int) : Prop where
 rep : Rep B (n.natAbs : Int) l
 sign : s = decide (n < 0)
theorem Rep.pos_iff {B n : Int} (hB : 0 < B) {a : List Int} (ha : Rep B n a) : 0 < a.length ↔ 0 < n := by
 have h := ha.nil_iff hB
 have h1 := ha.nonneg hB
 rw [List.length_pos_iff, Ne, h]
 omega
theorem Num.of_rep {B v : Int} (hB : 0 < B) {l : List Int} (h : Rep B v l) (b : Bool) : Num B (if b then -v else v) (b && decide (0 < l.length)) l := by
 have h1 := h.nonneg hB
 have h2 := h.pos_iff hB
 refine ⟨?_, ?_⟩
 ·have e : (((if b then -v else v) : Int).natAbs : Int) = v := by cases b <;> simp <;> omega
  rw [e]; exact h
 cases b
 ·simp; omega
 simp only [Bool.true_and, if_true]
 by_cases h3 : 0 < l.length
 ·have := h2.1 h3; simp [h3]; omega
 have : ¬ 0 < v := fun g => h3 (h2.2 g)
 simp [h3]; omega
theorem Num.of_rep' {B v : Int} (hB : 0 < B) {l : List Int} (h : Rep B v l) (b : Bool) {n : Int} (hn : n = if b then -v else v) : Num B n (b && decide (0 < l.length)) l := hn ▸ Num.of_rep hB h b
theorem mul_signs (n m : Int) : n * m = if (decide (n < 0) != decide (m < 0)) = true then -((n.natAbs : Int) * (m.natAbs : Int)) else (n.natAbs : Int) * (m.natAbs : Int) := by
 rcases Int.lt_or_le n 0 with h | h <;> rcases Int.lt_or_le m 0 with g | g
 ·have e1 : (n.natAbs : Int) = -n := by omega
  have e2 : (m.natAbs : Int) = -m := by omega
  rw [e1, e2]; simp [h, g, Int.neg_mul, Int.mul_neg]
 ·have e1 : (n.natAbs : Int) = -n := by omega
  have e2 : (m.natAbs : Int) = m := by omega
  have g' : ¬ m < 0 := by omega
  rw [e1, e2]; simp [h, g', Int.neg_mul]
 ·have e1 : (n.natAbs : Int) = n := by omega
  have e2 : (m.natAbs : Int) = -m := by omega
  have h' : ¬ n < 0 := by omega
  rw [e1, e2]; simp [h', g, Int.mul_neg]
 have e1 : (n.natAbs : Int) = n := by omega
 have e2 : (m.natAbs : Int) = m := by omega
 have h' : ¬ n < 0 := by omega
 have g' : ¬ m < 0 := by omega
 rw [e1, e2]; simp [h', g']
def sg (n : Int) : Int := if n < 0 then -1 else if n = 0 then 0 else 1
theorem sg_neg {n : Int} (h : n < 0) : sg n = -1 := by unfold sg; rw [if_pos h]
theorem sg_zero {n : Int} (h : n = 0) : sg n = 0 := by unfold sg; rw [if_neg (by omega), if_pos h]
theorem sg_pos {n : Int} (h : 0 < n) : sg n = 1 := by unfold sg; rw [if_neg (by omega), if_neg (by omega)]
theorem lt_of_len {B : Int} (hB : 0 < B) {a b : List Int} (da : Dig B a) (db : Dig B b) (tb : Top b) (h : a.length < b.length) : val B a < val B b := by
 have h1 := val_lt hB da
 have hne : b ≠ [] := by intro e; rw [e] at h; simp at h
 have h2 := low hB db tb hne
 have h4 : B ^ a.length ≤ B ^ (b.length - 1) := by
  obtain ⟨c, hc⟩ := Nat.exists_eq_add_of_le (show a.length ≤ b.length - 1 by omega)
  rw [hc, Int.pow_add]
  have g1 := pow_pos hB a.length
  have g2 := pow_pos hB c
  have := Int.mul_le_mul_of_nonneg_left (show (1 : Int) ≤ B ^ c by omega) (Int.le_of_lt g1)
  omega
 omega
theorem lt_of_top {B : Int} (hB : 0 < B) {a b : List Int} (da : Dig B a) (db : Dig B b) (n : Nat) (ha : n < a.length) (hb : n < b.length) (h : a[n] < b[n]) : val B (a.take (n + 1)) < val B (b.take (n + 1)) := by
 rw [val_take_succ B a n ha, val_take_succ B b n hb]
 have h1 := val_lt hB (da.take n)
 rw [List.length_take, Nat.min_eq_left (by omega)] at h1
 have h2 := val_nonneg hB (db.take n)
 have h3 := Int.mul_le_mul_of_nonneg_right (show a[n] + 1 ≤ b[n] by omega) (Int.le_of_lt (pow_pos hB n))
 rw [Int.add_mul, Int.one_mul] at h3
 omega
theorem add_step (V c c' s x y X Y P B : Int) (hs : c' * B + s = x + y + c) (hv : V + c * P = X + Y) : (V + s * P) + c' * (P * B) = (X + x * P) + (Y + y * P) := by
 have h1 : c' * (P * B) + s * P = (c' * B + s) * P := by rw [Int.add_mul, Int.mul_assoc, Int.mul_comm P B]
 rw [hs, Int.add_mul, Int.add_mul] at h1
 omega
theorem sub_step (V c c' s x y X Y P B : Int) (hs : s - c' * B = x - y - c) (hv : V - c * P = X - Y) : (V + s * P) - c' * (P * B) = (X + x * P) - (Y + y * P) := by
 have h1 : s * P - c' * (P * B) = (s - c' * B) * P := by rw [Int.sub_mul, Int.mul_assoc, Int.mul_comm P B]
 rw [hs, Int.sub_mul, Int.sub_mul] at h1
 omega
theorem val_take_getD (B : Int) (l : List Int) (i : Nat) : val B (l.take (i + 1)) = val B (l.take i) + l.getD i 0 * B ^ i := by
 by_cases h : i < l.length
 ·rw [val_take_succ B l i h, List.getD_eq_getElem?_getD, List.getElem?_eq_getElem h, Option.getD_some]
 rw [List.take_of_length_le (by omega), List.take_of_length_le (by omega), List.getD_eq_getElem?_getD, List.getElem?_eq_none (by omega), Option.getD_none, Int.zero_mul, Int.add_zero]
end Go.Proofs.YtikencoikigllaaDoor.Big
namespace Go.Proofs.YtikencoikigllaaDoor.PurePRa
set_option linter.unusedVariables false
set_option linter.unusedSimpArgs false
open Go.RowKit Go.Proofs.YtikencoikigllaaDoorW.PrintWords Go.Proofs.YtikencoikigllaaDoorW.PrintLast Go.Proofs.YtikencoikigllaaDoorW.PrintMore Go.Proofs.YtikencoikigllaaDoor.PRa Go.Proofs.YtikencoikigllaaDoor Go.Proofs.YtikencoikigllaaDoor.Mine Big
theorem pow_le_pow {B : Int} (hB : 0 < B) {m n : Nat} (h : m ≤ n) : B ^ m ≤ B ^ n := by
 obtain ⟨c, rfl⟩ := Nat.exists_eq_add_of_le h
 rw [Int.pow_add]
 have g1 := pow_pos hB m
 have g2 := pow_pos hB c
 have := Int.mul_le_mul_of_nonneg_left (show (1 : Int) ≤ B ^ c by omega) (Int.le_of_lt g1)
 omega
theorem rep_len {B v : Int} (hB : 0 < B) {r : List Int} (h : Rep B v r) {m : Nat} (hv : v < B ^ m) : r.length ≤ m := by
 refine Classical.byContradiction fun hc => ?_
 have hne : r ≠ [] := by intro e; rw [e] at hc; simp at hc
 have h1 := h.low hB hne
 have h2 := pow_le_pow hB (show m ≤ r.length - 1 by omega)
 omega
theorem signed_eq (m : List Int) (b : Bool) : whole_signed.f m b = some (m, b && decide (0 < m.length)) := by
 cases b
 ·simp [whole_signed.f]
 simp only [whole_signed.f, whole_amount_null.f, Option.bind_some, if_true]
 congr 2
 cases m <;> simp <;> omega
theorem dig_of_wf {l : List Int} (h : ∀ z ∈ l, (Lit.int .u64 z).wf = true) : Dig 18446744073709551616 l := fun z hz => by
 have := Go.bounds_u64 (h z hz)
 omega
theorem whole_amount_cmp_l0 (a b : List Int) (hl : a.length ≤ 8388608) (hab : a.length = b.length) (da : Dig 18446744073709551616 a) (db : Dig 18446744073709551616 b) : ∀ (n k : Nat) (i : Int), n ≤ a.length → n < k → i = (n : Int) - 1 → whole_amount_cmp.l0 k a b i = some (sg (val 18446744073709551616 (a.take n) - val 18446744073709551616 (b.take n))) := by
 intro n
 induction n with
 | zero =>
  intro k i _ hk hi
  obtain ⟨k, rfl⟩ : ∃ j, k = j + 1 := ⟨k - 1, by omega⟩
  rw [whole_amount_cmp.l0, if_neg (by omega), sg_zero (by simp)]
 | succ n ih =>
  intro k i hn hk hi
  obtain ⟨k, rfl⟩ : ∃ j, k = j + 1 := ⟨k - 1, by omega⟩
  have hi' : i = (n : Int) := by omega
  subst hi'
  have hna : n < a.length := by omega
  have hnb : n < b.length := by omega
  rw [whole_amount_cmp.l0, if_pos (by omega), if_pos (by omega), if_pos (by omega), if_pos (by omega), rd_nat a n hna, rd_nat b n hnb]
  rcases Int.lt_trichotomy a[n] b[n] with h | h | h
  ·have := lt_of_top (by decide) da db n hna hnb h
   rw [if_neg (by omega), if_pos h]
   rw [sg_neg (by omega)]
  ·rw [if_pos h]
   rw [w64 _ (by omega), ih k _ (by omega) (by omega) rfl, val_take_succ 18446744073709551616 a n hna, val_take_succ 18446744073709551616 b n hnb, h]
   congr 2
   omega
  have := lt_of_top (by decide) db da n hnb hna h
  rw [if_neg (by omega), if_neg (by omega)]
  rw [sg_pos (by omega)]
theorem whole_amount_cmp_ev (a b : List Int) (ha : a.length ≤ 8388608) (hb : b.length ≤ 8388608) (da : Dig 18446744073709551616 a) (db : Dig 18446744073709551616 b) (ta : Top a) (tb : Top b) : Ev (fun k => whole_amount_cmp.f k a b) (sg (val 18446744073709551616 a - val 18446744073709551616 b)) := by
 refine ⟨a.length + 1, fun k hk => ?_⟩
 show whole_amount_cmp.f k a b = _
 rw [whole_amount_cmp.f]
 rcases Nat.lt_trichotomy a.length b.length with h | h | h
 ·have := lt_of_len (by decide) da db tb h
  rw [if_neg (by omega), if_pos (by omega), sg_neg (by omega)]
 ·rw [if_pos (by omega), w64 _ (by omega), whole_amount_cmp_l0 a b ha h da db a.length k _ (Nat.le_refl _) (by omega) rfl, List.take_length, h, List.take_length]
 have := lt_of_len (by decide) db da ta h
 rw [if_neg (by omega), if_neg (by omega), sg_pos (by omega)]
theorem rd_getD (l : List Int) (n : Nat) : rd l (n : Int) = l.getD n 0 := by simp [rd]
theorem getD_ge (l : List Int) (n : Nat) (h : l.length ≤ n) : l.getD n 0 = 0 := by
 rw [List.getD_eq_getElem?_getD, List.getElem?_eq_none h, Option.getD_none]
theorem Add64_eq (x y c : Int) (hx : 0 ≤ x) (hy : 0 ≤ y) (hc : 0 ≤ c ∧ c ≤ 1) : bits_Add64.f x y c = some ((x + y + c) % 18446744073709551616, (x + y + c) / 18446744073709551616) := by
 rw [bits_Add64.f, if_pos ⟨hx, hy, hc.1, hc.2⟩]
theorem Sub64_eq (x y c : Int) (hx : 0 ≤ x) (hy : 0 ≤ y ∧ y < 18446744073709551616) (hc : 0 ≤ c ∧ c ≤ 1) : bits_Sub64.f x y c = some ((x - y - c) % 18446744073709551616, if x < y + c then 1 else 0) := by
 rw [bits_Sub64.f, if_pos ⟨hx, hy.1, hy.2, hc.1, hc.2⟩]
theorem plus_step (k : Nat) (a b out : List Int) (c : Int) (i : Nat) (hi : i < a.length) (hl : a.length ≤ 8388608) (ho : out.length = i) (da : Dig 18446744073709551616 a) (db : Dig 18446744073709551616 b) (hc : 0 ≤ c ∧ c ≤ 1) :
  whole_amount_plus.l0 (k + 1) a b out c (a.length : Int) (i : Int) = whole_amount_plus.l0 k a b (out ++ [(a.getD i 0 + b.getD i 0 + c) % 18446744073709551616]) ((a.getD i 0 + b.getD i 0 + c) / 18446744073709551616) (a.length : Int) ((i + 1 : Nat) : Int) := by
 have ga := getD_dig (by decide) da i
 have gb := getD_dig (by decide) db i
 rw [whole_amount_plus.l0, if_pos (by omega), rd_getD, rd_getD, show wrap64 ((i : Int) + 1) = ((i + 1 : Nat) : Int) from by rw [w64 _ (by omega)]; omega]
 by_cases h : (i : Int) < (b.length : Int)
 ·rw [if_pos h, if_pos (by omega), if_pos (by omega), Add64_eq _ _ _ ga.1 gb.1 hc, Option.bind_some, if_pos (by omega)]
 rw [if_neg h, if_pos (by omega), if_pos (by omega), Add64_eq _ _ _ ga.1 (by decide) hc, Option.bind_some, if_pos (by omega), getD_ge b i (by omega)]
theorem plus_l0 (a b : List Int) (hl : a.length ≤ 8388608) (hb : b.length ≤ a.length) (da : Dig 18446744073709551616 a) (db : Dig 18446744073709551616 b) : ∀ (n i : Nat) (out : List Int) (c : Int), i + n = a.length → out.length = i → Dig 18446744073709551616 out → 0 ≤ c ∧ c ≤ 1 → val 18446744073709551616 out + c * 18446744073709551616 ^ i = val 18446744073709551616 (a.take i) + val 18446744073709551616 (b.take i) →
  ∃ r, Ev (fun k => whole_amount_plus.l0 k a b out c (a.length : Int) (i : Int)) r ∧ Rep 18446744073709551616 (val 18446744073709551616 a + val 18446744073709551616 b) r := by
 intro n
 induction n with
 | zero =>
  intro i out c hi ho hd hc hv
  obtain ⟨r, ⟨K, hr⟩, h1, h2, h3⟩ := whole_trimmed_ev (B := 18446744073709551616) (l := out ++ [c]) (by simp; omega) (Dig.append.2 ⟨hd, by rw [Dig.cons]; exact ⟨⟨hc.1, by omega⟩, Dig.nil⟩⟩)
  refine ⟨r, ⟨K + 1, fun k hk => ?_⟩, h1, h2, ?_⟩
  ·obtain ⟨k, rfl⟩ : ∃ j, k = j + 1 := ⟨k - 1, by omega⟩
   have hk' : whole_trimmed.f k (out ++ [c]) = some r := hr k (by omega)
   show whole_amount_plus.l0 (k + 1) a b out c (a.length : Int) (i : Int) = some r
   rw [whole_amount_plus.l0, if_neg (by omega), if_pos (by omega), hk', Option.bind_some]
  rw [h3, val_snoc, ho, hv, List.take_of_length_le (by omega), List.take_of_length_le (by omega)]
 | succ n ih =>
  intro i out c hi ho hd hc hv
  have hil : i < a.length := by omega
  have ga := getD_dig (by decide) da i
  have gb := getD_dig (by decide) db i
  obtain ⟨r, ⟨K, hr⟩, hq⟩ := ih (i + 1) (out ++ [(a.getD i 0 + b.getD i 0 + c) % 18446744073709551616]) ((a.getD i 0 + b.getD i 0 + c) / 18446744073709551616) (by omega) (by simp; omega)
   (Dig.append.2 ⟨hd, by rw [Dig.cons]; exact ⟨by omega, Dig.nil⟩⟩) (by omega)
   (by rw [val_snoc, ho, val_take_getD, val_take_getD, Int.pow_succ]; exact add_step _ c _ _ _ _ _ _ _ _ (by omega) hv)
  refine ⟨r, ⟨K + 1, fun k hk => ?_⟩, hq⟩
  obtain ⟨k, rfl⟩ : ∃ j, k = j + 1 := ⟨k - 1, by omega⟩
  show whole_amount_plus.l0 (k + 1) a b out c (a.length : Int) (i : Int) = some r
  rw [plus_step k a b out c i hil hl ho da db hc]
  exact hr k (by omega)
theorem plus_j0 (a b : List Int) (hl : a.length ≤ 8388600) (hb : b.length ≤ a.length) (da : Dig 18446744073709551616 a) (db : Dig 18446744073709551616 b) :
  ∃ r, Ev (fun k => whole_amount_plus.j0 k a b) r ∧ Rep 18446744073709551616 (val 18446744073709551616 a + val 18446744073709551616 b) r := by
 obtain ⟨r, ⟨K, hr⟩, hq⟩ := plus_l0 a b (by omega) hb da db a.length 0 [] 0 (by omega) rfl Dig.nil (by omega) (by simp [val])
 refine ⟨r, ⟨K + 1, fun k hk => ?_⟩, hq⟩
 obtain ⟨k, rfl⟩ : ∃ j, k = j + 1 := ⟨k - 1, by omega⟩
 show whole_amount_plus.j0 (k + 1) a b = some r
 have hw : wrap64 ((a.length : Int) + 1) = ((a.length + 1 : Nat) : Int) := by rw [w64 _ (by omega)]; omega
 rw [whole_amount_plus.j0, hw, if_pos (by omega), Int.toNat_natCast, if_pos (by omega)]
 exact hr k (by omega)
theorem plus_ev (a b : List Int) (ha : a.length ≤ 8388600) (hb : b.length ≤ 8388600) (da : Dig 18446744073709551616 a) (db : Dig 18446744073709551616 b) :
  ∃ r, Ev (fun k => whole_amount_plus.f k a b) r ∧ Rep 18446744073709551616 (val 18446744073709551616 a + val 18446744073709551616 b) r := by
 by_cases h : a.length < b.length
 ·obtain ⟨r, ⟨K, hr⟩, hq⟩ := plus_j0 b a hb (by omega) db da
  refine ⟨r, ⟨K, fun k hk => ?_⟩, by rw [Int.add_comm]; exact hq⟩
  show whole_amount_plus.f k a b = some r
  rw [whole_amount_plus.f, if_pos (by omega)]
  exact hr k hk
 obtain ⟨r, ⟨K, hr⟩, hq⟩ := plus_j0 a b ha (by omega) da db
 refine ⟨r, ⟨K, fun k hk => ?_⟩, hq⟩
 show whole_amount_plus.f k a b = some r
 rw [whole_amount_plus.f, if_neg (by omega)]
 exact hr k hk
theorem num_len {B n m u : Int} (hB : 2 ≤ B) {s t x : Bool} {a b r : List Int} (ha : Num B n s a) (hb : Num B m t b) (hr : Num B u x r) (hu : (u.natAbs : Int) ≤ n.natAbs + m.natAbs) {L : Nat} (la : a.length ≤ L) (lb : b.length ≤ L) : r.length ≤ L + 1 := by
 refine rep_len (by omega) hr.rep ?_
 have h1 := ha.rep.lt (by omega)
 have h2 := hb.rep.lt (by omega)
 have h3 := pow_le_pow (B := B) (by omega) la
 have h4 := pow_le_pow (B := B) (by omega) lb
 rw [Int.pow_succ]
 have h5 := pow_pos (B := B) (by omega) L
 have h6 := Int.mul_le_mul_of_nonneg_left hB (Int.le_of_lt h5)
 omega
theorem cmp_num {n m : Int} {s t : Bool} {a b : List Int} (ha : Num 18446744073709551616 n s a) (hb : Num 18446744073709551616 m t b) (la : a.length ≤ 8388608) (lb : b.length ≤ 8388608) : Ev (fun k => whole_number_cmp.f k a s b t) (sg (n - m)) := by
 obtain ⟨K1, h1⟩ := whole_amount_cmp_ev a b la lb ha.rep.dig hb.rep.dig ha.rep.top hb.rep.top
 obtain ⟨K2, h2⟩ := whole_amount_cmp_ev b a lb la hb.rep.dig ha.rep.dig hb.rep.top ha.rep.top
 rw [ha.rep.val, hb.rep.val] at h1 h2
 refine ⟨max K1 K2 + 2, fun k hk => ?_⟩
 obtain ⟨k, rfl⟩ : ∃ j, k = j + 2 := ⟨k - 2, by omega⟩
 have g1 : whole_amount_cmp.f k a b = _ := h1 k (by omega)
 have g2 : whole_amount_cmp.f k b a = _ := h2 k (by omega)
 have e1 := ha.sign
 have e2 := hb.sign
 show whole_number_cmp.f (k + 1 + 1) a s b t = _
 rw [whole_number_cmp.f]
 cases s with
 | true =>
  have hn : n < 0 := of_decide_eq_true e1.symm
  cases t with
  | true =>
   have hm : m < 0 := of_decide_eq_true e2.symm
   rw [if_pos rfl, whole_number_cmp.j0, if_neg (by decide), if_pos rfl, whole_number_cmp.j1, if_neg (by decide), if_pos rfl, g2, Option.bind_some]
   congr 2; omega
  | false =>
   have hm : ¬ m < 0 := of_decide_eq_false e2.symm
   rw [if_pos rfl, whole_number_cmp.j0, if_pos (by decide), sg_neg (by omega)]
 | false =>
  have hn : ¬ n < 0 := of_decide_eq_false e1.symm
  cases t with
  | true =>
   have hm : m < 0 := of_decide_eq_true e2.symm
   rw [if_neg (by decide), whole_number_cmp.j0, if_neg (by decide), if_neg (by decide), whole_number_cmp.j1, if_pos rfl, sg_pos (by omega)]
  | false =>
   have hm : ¬ m < 0 := of_decide_eq_false e2.symm
   rw [if_neg (by decide), whole_number_cmp.j0, if_neg (by decide), if_neg (by decide), whole_number_cmp.j1, if_neg (by decide), if_neg (by decide), g1, Option.bind_some]
   congr 2; omega
theorem sg_ge {n : Int} : sg n ≥ 0 ↔ 0 ≤ n := by unfold sg; split <;> (try split) <;> omega
theorem len_of_le {B : Int} (hB : 0 < B) {a b : List Int} (da : Dig B a) (db : Dig B b) (tb : Top b) (h : val B b ≤ val B a) : b.length ≤ a.length := by
 refine Classical.byContradiction fun hc => ?_
 have := lt_of_len hB da db tb (by omega)
 omega
theorem minus_step (k : Nat) (a b out : List Int) (c : Int) (i : Nat) (hi : i < a.length) (hl : a.length ≤ 8388608) (ho : out.length = i) (da : Dig 18446744073709551616 a) (db : Dig 18446744073709551616 b) (hc : 0 ≤ c ∧ c ≤ 1) :
  whole_amount_minus.l0 (k + 1) a b out c (a.length : Int) (i : Int) = whole_amount_minus.l0 k a b (out ++ [(a.getD i 0 - b.getD i 0 - c) % 18446744073709551616]) (if a.getD i 0 < b.getD i 0 + c then 1 else 0) (a.length : Int) ((i + 1 : Nat) : Int) := by
 have ga := getD_dig (by decide) da i
 have gb := getD_dig (by decide) db i
 rw [whole_amount_minus.l0, if_pos (by omega), rd_getD, rd_getD, show wrap64 ((i : Int) + 1) = ((i + 1 : Nat) : Int) from by rw [w64 _ (by omega)]; omega]
 by_cases h : (i : Int) < (b.length : Int)
 ·rw [if_pos h, if_pos (by omega), if_pos (by omega), Sub64_eq _ _ _ ga.1 gb hc, Option.bind_some, if_pos (by omega)]
 rw [if_neg h, if_pos (by omega), if_pos (by omega), Sub64_eq _ _ _ ga.1 (by decide) hc, Option.bind_some, if_pos (by omega), getD_ge b i (by omega)]
theorem borrow_none {V c P X Y : Int} (hV : 0 ≤ V ∧ V < P) (hc : 0 ≤ c ∧ c ≤ 1) (hle : Y ≤ X) (h : V - c * P = X - Y) : V = X - Y := by
 have : c = 0 ∨ c = 1 := by omega
 rcases this with h1 | h1
 ·rw [h1] at h; omega
 rw [h1] at h; omega
theorem minus_l0 (a b : List Int) (hl : a.length ≤ 8388608) (hb : b.length ≤ a.length) (hle : val 18446744073709551616 b ≤ val 18446744073709551616 a) (da : Dig 18446744073709551616 a) (db : Dig 18446744073709551616 b) : ∀ (n i : Nat) (out : List Int) (c : Int), i + n = a.length → out.length = i → Dig 18446744073709551616 out → 0 ≤ c ∧ c ≤ 1 → val 18446744073709551616 out - c * 18446744073709551616 ^ i = val 18446744073709551616 (a.take i) - val 18446744073709551616 (b.take i) →
  ∃ r, Ev (fun k => whole_amount_minus.l0 k a b out c (a.length : Int) (i : Int)) r ∧ Rep 18446744073709551616 (val 18446744073709551616 a - val 18446744073709551616 b) r := by
 intro n
 induction n with
 | zero =>
  intro i out c hi ho hd hc hv
  obtain ⟨r, ⟨K, hr⟩, h1, h2, h3⟩ := whole_trimmed_ev (B := 18446744073709551616) (l := out) (by omega) hd
  refine ⟨r, ⟨K + 1, fun k hk => ?_⟩, h1, h2, ?_⟩
  ·obtain ⟨k, rfl⟩ : ∃ j, k = j + 1 := ⟨k - 1, by omega⟩
   have hk' : whole_trimmed.f k out = some r := hr k (by omega)
   show whole_amount_minus.l0 (k + 1) a b out c (a.length : Int) (i : Int) = some r
   rw [whole_amount_minus.l0, if_neg (by omega), hk', Option.bind_some]
  rw [h3]
  rw [List.take_of_length_le (by omega), List.take_of_length_le (by omega)] at hv
  have g1 := val_lt (B := 18446744073709551616) (by decide) hd
  have g2 := val_nonneg (B := 18446744073709551616) (by decide) hd
  rw [ho] at g1
  exact borrow_none ⟨g2, g1⟩ hc hle hv
 | succ n ih =>
  intro i out c hi ho hd hc hv
  have hil : i < a.length := by omega
  have ga := getD_dig (by decide) da i
  have gb := getD_dig (by decide) db i
  obtain ⟨r, ⟨K, hr⟩, hq⟩ := ih (i + 1) (out ++ [(a.getD i 0 - b.getD i 0 - c) % 18446744073709551616]) (if a.getD i 0 < b.getD i 0 + c then 1 else 0) (by omega) (by simp; omega)
   (Dig.append.2 ⟨hd, by rw [Dig.cons]; exact ⟨by omega, Dig.nil⟩⟩) (by split <;> omega)
   (by rw [val_snoc, ho, val_take_getD, val_take_getD, Int.pow_succ]; exact sub_step _ c _ _ _ _ _ _ _ _ (by split <;> omega) hv)
  refine ⟨r, ⟨K + 1, fun k hk => ?_⟩, hq⟩
  obtain ⟨k, rfl⟩ : ∃ j, k = j + 1 := ⟨k - 1, by omega⟩
  show whole_amount_minus.l0 (k + 1) a b out c (a.length : Int) (i : Int) = some r
  rw [minus_step k a b out c i hil hl ho da db hc]
  exact hr k (by omega)
theorem minus_ev (a b : List Int) (ha : a.length ≤ 8388608) (hb : b.length ≤ a.length) (hle : val 18446744073709551616 b ≤ val 18446744073709551616 a) (da : Dig 18446744073709551616 a) (db : Dig 18446744073709551616 b) :
  ∃ r, Ev (fun k => whole_amount_minus.f k a b) r ∧ Rep 18446744073709551616 (val 18446744073709551616 a - val 18446744073709551616 b) r := by
 obtain ⟨r, ⟨K, hr⟩, hq⟩ := minus_l0 a b ha hb hle da db a.length 0 [] 0 (by omega) rfl Dig.nil (by omega) (by simp [val])
 refine ⟨r, ⟨K, fun k hk => ?_⟩, hq⟩
 show whole_amount_minus.f k a b = some r
 rw [whole_amount_minus.f, if_pos (by omega), Int.toNat_natCast, if_pos (by omega)]
 exact hr k hk
theorem plus_num {n m : Int} {s t : Bool} {a b : List Int} (ha : Num 18446744073709551616 n s a) (hb : Num 18446744073709551616 m t b) (la : a.length ≤ 8388600) (lb : b.length ≤ 8388600) :
  ∃ u r, Ev (fun k => whole_number_plus.f k a s b t) (r, u) ∧ Num 18446744073709551616 (n + m) u r := by
 have e1 := ha.sign
 have e2 := hb.sign
 by_cases hst : s = t
 ·obtain ⟨r, ⟨K, hr⟩, hR⟩ := plus_ev a b la lb ha.rep.dig hb.rep.dig
  rw [ha.rep.val, hb.rep.val] at hR
  refine ⟨_, r, ⟨K, fun k hk => ?_⟩, Num.of_rep' (by decide) hR s (by subst hst; cases s <;> simp at e1 e2 ⊢ <;> omega)⟩
  have g : whole_amount_plus.f k a b = some r := hr k hk
  show whole_number_plus.f k a s b t = _
  rw [whole_number_plus.f, if_pos (by rw [hst]; exact beq_self_eq_true t), g, Option.bind_some, signed_eq, Option.bind_some]
 obtain ⟨K1, h1⟩ := whole_amount_cmp_ev a b (by omega) (by omega) ha.rep.dig hb.rep.dig ha.rep.top hb.rep.top
 have hne : ¬ (s == t) = true := by intro h; exact hst (eq_of_beq h)
 by_cases hle : val 18446744073709551616 b ≤ val 18446744073709551616 a
 ·obtain ⟨r, ⟨K, hr⟩, hR⟩ := minus_ev a b (by omega) (len_of_le (by decide) ha.rep.dig hb.rep.dig hb.rep.top hle) hle ha.rep.dig hb.rep.dig
  have hle' := hle
  rw [ha.rep.val, hb.rep.val] at hR hle'
  refine ⟨_, r, ⟨max K K1, fun k hk => ?_⟩, Num.of_rep' (by decide) hR s (by cases s <;> cases t <;> simp at hst e1 e2 ⊢ <;> omega)⟩
  have g : whole_amount_minus.f k a b = some r := hr k (by omega)
  have g1 : whole_amount_cmp.f k a b = _ := h1 k (by omega)
  show whole_number_plus.f k a s b t = _
  rw [whole_number_plus.f, if_neg hne, g1, Option.bind_some, if_pos (sg_ge.2 (by omega)), g, Option.bind_some, signed_eq, Option.bind_some]
 have hle2 : val 18446744073709551616 a ≤ val 18446744073709551616 b := by omega
 obtain ⟨r, ⟨K, hr⟩, hR⟩ := minus_ev b a (by omega) (len_of_le (by decide) hb.rep.dig ha.rep.dig ha.rep.top hle2) hle2 hb.rep.dig ha.rep.dig
 have hle' := hle2
 rw [ha.rep.val, hb.rep.val] at hR hle'
 refine ⟨_, r, ⟨max K K1, fun k hk => ?_⟩, Num.of_rep' (by decide) hR t (by cases s <;> cases t <;> simp at hst e1 e2 ⊢ <;> omega)⟩
 have g : whole_amount_minus.f k b a = some r := hr k (by omega)
 have g1 : whole_amount_cmp.f k a b = _ := h1 k (by omega)
 show whole_number_plus.f k a s b t = _
 rw [whole_number_plus.f, if_neg hne, g1, Option.bind_some, if_neg (fun x => hle (by have := sg_ge.1 x; omega)), g, Option.bind_some, signed_eq, Option.bind_some]
theorem opposite_num {n : Int} {s : Bool} {a : List Int} (ha : Num 18446744073709551616 n s a) : ∃ u, whole_number_opposite.f a s = some (a, u) ∧ Num 18446744073709551616 (-n) u a := by
 have e1 := ha.sign
 refine ⟨_, ?_, Num.of_rep' (by decide) ha.rep (!s) (by cases s <;> simp at e1 ⊢ <;> omega)⟩
 rw [whole_number_opposite.f, signed_eq, Option.bind_some]
theorem minus_num {n m : Int} {s t : Bool} {a b : List Int} (ha : Num 18446744073709551616 n s a) (hb : Num 18446744073709551616 m t b) (la : a.length ≤ 8388600) (lb : b.length ≤ 8388600) :
  ∃ u r, Ev (fun k => whole_number_minus.f k a s b t) (r, u) ∧ Num 18446744073709551616 (n - m) u r := by
 obtain ⟨v, hv, hb'⟩ := opposite_num hb
 obtain ⟨u, r, ⟨K, hr⟩, hR⟩ := plus_num ha hb' la lb
 refine ⟨u, r, ⟨K, fun k hk => ?_⟩, by rw [Int.sub_eq_add_neg]; exact hR⟩
 have g : whole_number_plus.f k a s b v = _ := hr k hk
 show whole_number_minus.f k a s b t = _
 rw [whole_number_minus.f, hv, Option.bind_some, g, Option.bind_some]
theorem getD_set_ne (l : List Int) (i t : Nat) (v : Int) (h : i ≠ t) : (l.set i v).getD t 0 = l.getD t 0 := by
 simp [List.getD_eq_getElem?_getD, List.getElem?_set_ne h]
theorem step_arith {xy o c lo hi s1 s2 : Int} (hxy : 0 ≤ xy ∧ xy ≤ 18446744073709551615 * 18446744073709551615) (ho : 0 ≤ o ∧ o < 18446744073709551616) (hc : 0 ≤ c ∧ c < 18446744073709551616)
  (h1 : hi = xy / 18446744073709551616) (h2 : lo = xy % 18446744073709551616) (h3 : s1 = lo + o + 0) (h4 : s2 = s1 % 18446744073709551616 + c + 0) :
  IntKind.u64.wrap (IntKind.u64.wrap (hi + s1 / 18446744073709551616) + s2 / 18446744073709551616) * 18446744073709551616 + s2 % 18446744073709551616 = xy + o + c ∧
  0 ≤ IntKind.u64.wrap (IntKind.u64.wrap (hi + s1 / 18446744073709551616) + s2 / 18446744073709551616) ∧ IntKind.u64.wrap (IntKind.u64.wrap (hi + s1 / 18446744073709551616) + s2 / 18446744073709551616) < 18446744073709551616 := by
 simp only [IntKind.wrap_u64]
 have e1 : xy = hi * 18446744073709551616 + lo := by omega
 have e2 : s1 = (s1 / 18446744073709551616) * 18446744073709551616 + s1 % 18446744073709551616 := by omega
 have e3 : s2 = (s2 / 18446744073709551616) * 18446744073709551616 + s2 % 18446744073709551616 := by omega
 have lo1 : 0 ≤ s1 % 18446744073709551616 ∧ s1 % 18446744073709551616 < 18446744073709551616 := by omega
 generalize s1 / 18446744073709551616 = c1 at *
 generalize s1 % 18446744073709551616 = l1 at *
 generalize s2 / 18446744073709551616 = c2 at *
 have l2 : 0 ≤ s2 % 18446744073709551616 ∧ s2 % 18446744073709551616 < 18446744073709551616 := by omega
 generalize s2 % 18446744073709551616 = m2 at *
 have b : (hi + c1 + c2) * 18446744073709551616 + m2 = xy + o + c := by omega
 have lo0 : 0 ≤ hi := by omega
 have b1 : 0 ≤ c1 := by omega
 have b2 : 0 ≤ c2 := by omega
 have b3 : hi + c1 + c2 < 18446744073709551616 := by omega
 rw [Int.emod_eq_of_lt (a := hi + c1) (by omega) (by omega), Int.emod_eq_of_lt (by omega) (by omega)]
 exact ⟨b, by omega, b3⟩
theorem mstep (x y o c : Int) (hx : 0 ≤ x ∧ x < 18446744073709551616) (hy : 0 ≤ y ∧ y < 18446744073709551616) (ho : 0 ≤ o ∧ o < 18446744073709551616) (hc : 0 ≤ c ∧ c < 18446744073709551616) :
  ∃ hi lo t1 c1 lo2 c2 c', bits_Mul64.f x y = some (hi, lo) ∧ bits_Add64.f lo o 0 = some (t1, c1) ∧ bits_Add64.f t1 c 0 = some (lo2, c2) ∧ IntKind.u64.wrap (IntKind.u64.wrap (hi + c1) + c2) = c' ∧ (0 ≤ lo2 ∧ lo2 < 18446744073709551616) ∧ (0 ≤ c' ∧ c' < 18446744073709551616) ∧ c' * 18446744073709551616 + lo2 = x * y + o + c := by
 have hxy := mul_bound (x := x) (y := y) (M := 18446744073709551615) ⟨hx.1, by omega⟩ ⟨hy.1, by omega⟩
 obtain ⟨hs, hc1, hc2⟩ := step_arith hxy ho hc rfl rfl rfl rfl
 refine ⟨_, _, (x * y % 18446744073709551616 + o + 0) % 18446744073709551616, _, _, _, _, Mul64_eq x y hx hy, ?_, ?_, rfl, ?_, ⟨hc1, hc2⟩, hs⟩
 ·rw [bits_Add64.f, if_pos ⟨by omega, by omega, by omega, by omega⟩]
 ·rw [bits_Add64.f, if_pos ⟨by omega, by omega, by omega, by omega⟩]
 omega
theorem or_add (t : Nat) {x y : Int} (hx : 0 ≤ x ∧ x < 18446744073709551616) (hd : ∃ c, x = c * 2 ^ t) (hy : 0 ≤ y ∧ y < 2 ^ t) (hy2 : y < 18446744073709551616) : Go.bits .or .u64 x y = x + y ∧ Go.bits .or .u64 y x = x + y := by
 obtain ⟨c, rfl⟩ := hd
 have hp : (0 : Int) < 2 ^ t := Int.pow_pos (by decide)
 have hc : 0 ≤ c := by
  refine Classical.byContradiction fun h => ?_
  have := Int.mul_le_mul_of_nonneg_right (show c ≤ -1 by omega) (Int.le_of_lt hp)
  omega
 obtain ⟨n, rfl⟩ := Int.eq_ofNat_of_zero_le hc
 obtain ⟨m, rfl⟩ := Int.eq_ofNat_of_zero_le hy.1
 have hpc : ((2 : Int) ^ t) = ((2 ^ t : Nat) : Int) := by simp
 rw [hpc] at hx hy ⊢
 have hm : m < 2 ^ t := by have := hy.2; omega
 rw [← Int.natCast_mul] at hx ⊢
 have e : n * 2 ^ t ||| m = n * 2 ^ t + m := by
  have := Nat.shiftLeft_add_eq_or_of_lt (i := t) (b := m) hm n
  rw [Nat.shiftLeft_eq] at this
  exact this.symm
 constructor
 ·rw [bits_or_u64_nat _ _ (by omega) (by omega), e]; omega
 rw [bits_or_u64_nat _ _ (by omega) (by omega), Nat.or_comm, e]; omega
theorem or_nil {x : Int} (hx : 0 ≤ x ∧ x < 18446744073709551616) : Go.bits .or .u64 0 x = x := by
 have := (or_add 0 (x := x) (y := 0) hx ⟨x, by simp⟩ (by simp) (by decide)).2
 rw [this]; omega
structure Sh (s P Q : Int) : Prop where
 s0 : 0 ≤ s ∧ s ≤ 63
 P0 : 0 < P
 Q0 : 0 < Q
 PQ : P * Q = 18446744073709551616
 P1 : ∃ t : Nat, P = 2 ^ t ∧ s.toNat = t
 Q1 : ∃ t : Nat, Q = 2 ^ t ∧ 64 - s.toNat = t
theorem Sh.P_le {s P Q : Int} (h : Sh s P Q) : P ≤ 18446744073709551616 := by
 have := Int.mul_le_mul_of_nonneg_left (show (1 : Int) ≤ Q by have := h.Q0; omega) (Int.le_of_lt h.P0)
 rw [h.PQ] at this; omega
theorem Sh.Q_le {s P Q : Int} (h : Sh s P Q) : Q ≤ 18446744073709551616 := by
 have := Int.mul_le_mul_of_nonneg_right (show (1 : Int) ≤ P by have := h.P0; omega) (Int.le_of_lt h.Q0)
 rw [h.PQ] at this; omega
theorem shl_parts {P Q x : Int} (hP : 0 < P) (hQ : 0 < Q) (hPQ : P * Q = 18446744073709551616) (hx : 0 ≤ x ∧ x < 18446744073709551616) :
  x * P = x / Q * 18446744073709551616 + x % Q * P ∧ 0 ≤ x / Q ∧ x / Q < P ∧ 0 ≤ x % Q * P ∧ x % Q * P < 18446744073709551616 ∧ (x * P) % 18446744073709551616 = x % Q * P := by
 have h1 := Int.mul_ediv_add_emod x Q
 have h2 := Int.emod_nonneg x (Int.ne_of_gt hQ)
 have h3 := Int.emod_lt_of_pos x hQ
 have h4 : 0 ≤ x / Q := Int.ediv_nonneg hx.1 (Int.le_of_lt hQ)
 have e : x * P = x / Q * 18446744073709551616 + x % Q * P := by
  have : x * P = (Q * (x / Q) + x % Q) * P := by rw [h1]
  rw [this, Int.add_mul, ← hPQ, Int.mul_comm Q, Int.mul_assoc, Int.mul_comm Q P]
 have h5 : 0 ≤ x % Q * P := Int.mul_nonneg h2 (Int.le_of_lt hP)
 have h6 : x % Q * P < 18446744073709551616 := by
  rw [← hPQ, Int.mul_comm P Q]
  exact Int.mul_lt_mul_of_pos_right h3 hP
 refine ⟨e, h4, ?_, h5, h6, ?_⟩
 ·refine Int.ediv_lt_of_lt_mul hQ ?_
  rw [hPQ]; exact hx.2
 rw [e, Int.mul_add_emod_self_right]; exact Int.emod_eq_of_lt h5 h6
theorem Sh.eqL {s P Q x : Int} (h : Sh s P Q) (hx : 0 ≤ x ∧ x < 18446744073709551616) : shl .u64 x s = x % Q * P := by
 obtain ⟨t, e, et⟩ := h.P1
 have := (shl_parts h.P0 h.Q0 h.PQ hx).2.2.2.2.2
 have hs := h.s0
 unfold Go.Proofs.YtikencoikigllaaDoorW.PrintWords.shl
 rw [show min s.toNat IntKind.u64.bits = t from by show min s.toNat 64 = t; omega, ← e, IntKind.wrap_u64, this]
theorem Sh.eqR {s P Q x : Int} (h : Sh s P Q) : shr .u64 x s = x / P := by
 obtain ⟨t, e, et⟩ := h.P1
 have hs := h.s0
 unfold Go.Proofs.YtikencoikigllaaDoorW.PrintWords.shr
 rw [show min s.toNat IntKind.u64.bits = t from by show min s.toNat 64 = t; omega, ← e]
theorem Sh.count {s P Q : Int} (h : Sh s P Q) : IntKind.u64.wrap (64 - s) = 64 - s := by
 have hs := h.s0
 rw [IntKind.wrap_u64]; omega
theorem Sh.eqR' {s P Q x : Int} (h : Sh s P Q) : shr .u64 x (64 - s) = x / Q := by
 obtain ⟨t, e, et⟩ := h.Q1
 have hs := h.s0
 unfold Go.Proofs.YtikencoikigllaaDoorW.PrintWords.shr
 rw [show min (64 - s).toNat IntKind.u64.bits = t from by show min (64 - s).toNat 64 = t; omega, ← e]
theorem Sh.eqL' {s P Q x : Int} (h : Sh s P Q) (hx : 0 ≤ x ∧ x < 18446744073709551616) : shl .u64 x (64 - s) = x % P * Q := by
 obtain ⟨t, e, et⟩ := h.Q1
 have := (shl_parts h.Q0 h.P0 (by rw [Int.mul_comm]; exact h.PQ) hx).2.2.2.2.2
 have hs := h.s0
 unfold Go.Proofs.YtikencoikigllaaDoorW.PrintWords.shl
 rw [show min (64 - s).toNat IntKind.u64.bits = t from by show min (64 - s).toNat 64 = t; omega, ← e, IntKind.wrap_u64, this]
theorem val_set_getD (B : Int) (l : List Int) (i : Nat) (v : Int) (hi : i < l.length) : val B (l.set i v) = val B l + (v - l.getD i 0) * B ^ i := by
 rw [val_set B l i v hi, List.getD_eq_getElem?_getD, List.getElem?_eq_getElem hi, Option.getD_some]
theorem getD_set_eq (l : List Int) (i : Nat) (v : Int) (hi : i < l.length) : (l.set i v).getD i 0 = v := by
 rw [List.getD_eq_getElem?_getD, List.getElem?_set_self hi, Option.getD_some]
theorem div_eq {T y g : Int} (hy : 0 < y) (h1 : g * y ≤ T) (h2 : T < (g + 1) * y) : T / y = g := by
 have := Int.le_ediv_of_mul_le hy h1
 have := Int.ediv_lt_of_lt_mul hy h2
 omega
structure Half (y yn1 yn0 u d q r : Int) : Prop where
 hy : y = yn1 * 4294967296 + yn0
 y1 : 2147483648 ≤ yn1 ∧ yn1 < 4294967296
 y0 : 0 ≤ yn0 ∧ yn0 < 4294967296
 hu : 0 ≤ u ∧ u < y
 hd : 0 ≤ d ∧ d < 4294967296
 hq : 0 ≤ q ∧ q ≤ 4294967297
 hr : 0 ≤ r ∧ r < 4294967296
 hqr : u = q * yn1 + r
 top : u * 4294967296 + d < (q + 1) * y
theorem Half.start {y yn1 yn0 u d : Int} (hy : y = yn1 * 4294967296 + yn0) (y1 : 2147483648 ≤ yn1 ∧ yn1 < 4294967296) (y0 : 0 ≤ yn0 ∧ yn0 < 4294967296) (hu : 0 ≤ u ∧ u < y) (hd : 0 ≤ d ∧ d < 4294967296) : Half y yn1 yn0 u d (u / yn1) (u % yn1) := by
 have h1 := Int.mul_ediv_add_emod u yn1
 have h2 := Int.emod_nonneg u (show yn1 ≠ 0 by omega)
 have h3 := Int.emod_lt_of_pos u (show 0 < yn1 by omega)
 have h4 : 0 ≤ u / yn1 := Int.ediv_nonneg hu.1 (by omega)
 have h5 : u / yn1 < 4294967298 := Int.ediv_lt_of_lt_mul (by omega) (by omega)
 rw [Int.mul_comm] at h1
 refine ⟨hy, y1, y0, hu, hd, ⟨h4, by omega⟩, ⟨h2, by omega⟩, h1.symm, ?_⟩
 have h6 : 0 ≤ (u / yn1 + 1) * yn0 := Int.mul_nonneg (by omega) y0.1
 have h7 : (u / yn1 + 1) * y = (u / yn1 * yn1 + yn1) * 4294967296 + (u / yn1 + 1) * yn0 := by
  rw [hy, Int.mul_add, ← Int.mul_assoc, Int.add_mul (u / yn1) 1 yn1, Int.one_mul]
 rw [h7]; omega
theorem Half.eqs {y yn1 yn0 u d q r : Int} (h : Half y yn1 yn0 u d q r) : u * 4294967296 + d - q * y = r * 4294967296 + d - q * yn0 := by
 have e : q * y = q * yn1 * 4294967296 + q * yn0 := by rw [h.hy, Int.mul_add, ← Int.mul_assoc]
 have := h.hqr
 rw [e]; omega
theorem Half.below {y yn1 yn0 u d q r : Int} (h : Half y yn1 yn0 u d q r) : u * 4294967296 + d < 4294967296 * y := by
 have := h.hu; have := h.hd; omega
theorem Half.good {y yn1 yn0 u d q r : Int} (h : Half y yn1 yn0 u d q r) (hc : q * yn0 ≤ r * 4294967296 + d) : (u * 4294967296 + d) / y = q := by
 have e := h.eqs
 have hy := h.hy; have h1 := h.y1; have h2 := h.y0
 exact div_eq (by omega) (by omega) h.top
theorem Half.much {y yn1 yn0 u d q r : Int} (h : Half y yn1 yn0 u d q r) (hc : q ≥ 4294967296 ∨ q * yn0 > r * 4294967296 + d) : u * 4294967296 + d < q * y ∧ 1 ≤ q := by
 have e := h.eqs
 have hy := h.hy; have h1 := h.y1; have h2 := h.y0; have h3 := h.hd; have h4 := h.hr; have h5 := h.hq
 rcases hc with hc | hc
 ·have := h.below
  have h6 := Int.mul_le_mul_of_nonneg_right (show 4294967296 ≤ q from hc) (show 0 ≤ y by omega)
  omega
 refine ⟨by omega, ?_⟩
 refine Classical.byContradiction fun hx => ?_
 have : q = 0 := by omega
 rw [this] at hc; omega
theorem Half.next {y yn1 yn0 u d q r : Int} (h : Half y yn1 yn0 u d q r) (hc : q ≥ 4294967296 ∨ q * yn0 > r * 4294967296 + d) (hr : r + yn1 < 4294967296) : Half y yn1 yn0 u d (q - 1) (r + yn1) := by
 obtain ⟨h1, h2⟩ := h.much hc
 have h3 := h.hqr; have h4 := h.hq; have h5 := h.hr; have h6 := h.y1
 refine ⟨h.hy, h.y1, h.y0, h.hu, h.hd, by omega, by omega, ?_, by rw [show q - 1 + 1 = q from by omega]; exact h1⟩
 rw [Int.sub_mul, Int.one_mul]; omega
theorem Half.last {y yn1 yn0 u d q r : Int} (h : Half y yn1 yn0 u d q r) (hc : q ≥ 4294967296 ∨ q * yn0 > r * 4294967296 + d) (hr : r + yn1 ≥ 4294967296) : (u * 4294967296 + d) / y = q - 1 := by
 obtain ⟨h1, h2⟩ := h.much hc
 have h3 := h.hqr; have h4 := h.hq; have h5 := h.hr; have h6 := h.y1; have h7 := h.y0; have h8 := h.hd; have hy := h.hy
 refine div_eq (by omega) ?_ (by rw [show q - 1 + 1 = q from by omega]; exact h1)
 have e := h.eqs
 have e2 : (q - 1) * y = q * y - y := by rw [Int.sub_mul, Int.one_mul]
 have e3 : (q - 1) * yn0 = q * yn0 - yn0 := by rw [Int.sub_mul, Int.one_mul]
 have h9 := Int.mul_le_mul (show q - 1 ≤ 4294967296 by omega) (show yn0 ≤ 4294967295 by omega) h7.1 (by decide)
 rw [e2]; omega
theorem Half.quot {y yn1 yn0 u d q r : Int} (h : Half y yn1 yn0 u d q r) : 0 ≤ (u * 4294967296 + d) / y ∧ (u * 4294967296 + d) / y < 4294967296 := by
 have h3 := h.hu; have h4 := h.hd; have hy := h.hy; have h6 := h.y1; have h7 := h.y0
 exact ⟨Int.ediv_nonneg (by omega) (by omega), Int.ediv_lt_of_lt_mul (by omega) h.below⟩
theorem Half.qy {y yn1 yn0 u d q r : Int} (h : Half y yn1 yn0 u d q r) (hq : q < 4294967296) : 0 ≤ q * yn0 ∧ q * yn0 < 18446744073709551616 := by
 have h1 := h.y0; have h2 := h.hq
 refine ⟨Int.mul_nonneg h2.1 h1.1, ?_⟩
 have := Int.mul_le_mul (show q ≤ 4294967295 by omega) (show yn0 ≤ 4294967295 by omega) h1.1 (by decide)
 omega
theorem u64_in {x : Int} (h : 0 ≤ x ∧ x < 18446744073709551616) : IntKind.u64.wrap x = x := by
 rw [IntKind.wrap_u64]; omega
theorem Div64_l0 {y yn1 yn0 u d : Int} (s e : Int) (R : Int × Int) (hR : Ev (fun k => bits_Div64.j2 k y s yn1 yn0 u d e ((u * 4294967296 + d) / y)) R) : ∀ (n : Nat) (q r : Int), (4294967296 - r).toNat ≤ n → Half y yn1 yn0 u d q r → Ev (fun k => bits_Div64.l0 k y s yn1 yn0 u d e q r) R := by
 obtain ⟨K0, hR⟩ := hR
 intro n
 induction n with
 | zero => intro q r hn h; have := h.hr; omega
 | succ n ih =>
  intro q r hn h
  have h2 := h.hq; have h3 := h.hr; have h4 := h.y1; have h5 := h.hd; have h6 := h.y0
  have key : ∀ k, bits_Div64.l0 (k + 1) y s yn1 yn0 u d e q r = bits_Div64.j1 k y s yn1 yn0 u d e q r (decide (q ≥ 4294967296 ∨ q * yn0 > r * 4294967296 + d)) := by
   intro k
   rw [bits_Div64.l0]
   by_cases hc : q ≥ 4294967296
   ·rw [if_pos hc, decide_eq_true (Or.inl hc)]
   have := h.qy (by omega)
   rw [if_neg hc, u64_in this, u64_in (x := 4294967296 * r) (by omega), u64_in (x := 4294967296 * r + d) (by omega)]
   congr 1
   apply Bool.eq_iff_iff.2
   simp only [decide_eq_true_eq]
   constructor
   ·intro hx; right; omega
   intro hx; rcases hx with hx | hx <;> omega
  by_cases hc : q ≥ 4294967296 ∨ q * yn0 > r * 4294967296 + d
  ·have hq1 := (h.much hc).2
   by_cases ho : r + yn1 ≥ 4294967296
   ·refine ⟨K0 + 2, fun k hk => ?_⟩
    obtain ⟨k, rfl⟩ : ∃ j, k = j + 2 := ⟨k - 2, by omega⟩
    show bits_Div64.l0 (k + 1 + 1) y s yn1 yn0 u d e q r = some R
    rw [key, decide_eq_true hc, bits_Div64.j1, if_pos rfl, u64_in (x := r + yn1) (by omega), if_pos ho, u64_in (x := q - 1) (by omega), ← h.last hc ho]
    exact hR k (by omega)
   obtain ⟨K1, h1⟩ := ih (q - 1) (r + yn1) (by omega) (h.next hc (by omega))
   refine ⟨K1 + 2, fun k hk => ?_⟩
   obtain ⟨k, rfl⟩ : ∃ j, k = j + 2 := ⟨k - 2, by omega⟩
   show bits_Div64.l0 (k + 1 + 1) y s yn1 yn0 u d e q r = some R
   rw [key, decide_eq_true hc, bits_Div64.j1, if_pos rfl, u64_in (x := r + yn1) (by omega), if_neg ho, u64_in (x := q - 1) (by omega)]
   exact h1 k (by omega)
  refine ⟨K0 + 2, fun k hk => ?_⟩
  obtain ⟨k, rfl⟩ : ∃ j, k = j + 2 := ⟨k - 2, by omega⟩
  show bits_Div64.l0 (k + 1 + 1) y s yn1 yn0 u d e q r = some R
  rw [key, decide_eq_false hc, bits_Div64.j1, if_neg (by decide)]
  have hg := h.good (by omega)
  rw [← hg]
  exact hR k (by omega)
theorem Div64_fin {y s P Q u d q g : Int} (h : Sh s P Q) (hy : 0 < y ∧ y < 18446744073709551616) (hu : 0 ≤ u ∧ u < y) (hd : 0 ≤ d ∧ d < 4294967296) (hg : (u * 4294967296 + d) / y = g) (hg0 : 0 ≤ g ∧ g < 4294967296) (hq : 0 ≤ q ∧ q < 4294967296) :
  (if 0 ≤ s then some (IntKind.u64.wrap (IntKind.u64.wrap (q * 4294967296) + g), Go.Proofs.YtikencoikigllaaDoorW.PrintWords.shr .u64 (IntKind.u64.wrap (IntKind.u64.wrap (IntKind.u64.wrap (u * 4294967296) + d) - IntKind.u64.wrap (g * y))) s) else none) = some (q * 4294967296 + g, (u * 4294967296 + d) % y / P) := by
 have hs := h.s0
 have h1 := Int.emod_nonneg (u * 4294967296 + d) (show y ≠ 0 by omega)
 have h2 := Int.emod_lt_of_pos (u * 4294967296 + d) hy.1
 have h3 := Int.mul_ediv_add_emod (u * 4294967296 + d) y
 rw [hg, Int.mul_comm y g] at h3
 rw [if_pos hs.1, u64_in (x := q * 4294967296) (by omega), u64_in (x := q * 4294967296 + g) (by omega), h.eqR]
 have e : IntKind.u64.wrap (IntKind.u64.wrap (IntKind.u64.wrap (u * 4294967296) + d) - IntKind.u64.wrap (g * y)) = (u * 4294967296 + d) % y := by
  simp only [IntKind.wrap_u64]
  omega
 rw [e]
theorem Div64_l1 {y yn1 yn0 u d s P Q : Int} (hs : Sh s P Q) (hy : 0 < y ∧ y < 18446744073709551616) (g : Int) (hg : 0 ≤ g ∧ g < 4294967296) : ∀ (n : Nat) (q r : Int), (4294967296 - r).toNat ≤ n → Half y yn1 yn0 u d q r → Ev (fun k => bits_Div64.l1 k y s yn1 yn0 d g r u q) (g * 4294967296 + (u * 4294967296 + d) / y, (u * 4294967296 + d) % y / P) := by
 intro n
 induction n with
 | zero => intro q r hn h; have := h.hr; omega
 | succ n ih =>
  intro q r hn h
  have h2 := h.hq; have h3 := h.hr; have h4 := h.y1; have h5 := h.hd; have h6 := h.y0
  have hquot := h.quot
  have key : ∀ k, bits_Div64.l1 (k + 1) y s yn1 yn0 d g r u q = bits_Div64.j4 k y s yn1 yn0 d g r u q (decide (q ≥ 4294967296 ∨ q * yn0 > r * 4294967296 + d)) := by
   intro k
   rw [bits_Div64.l1]
   by_cases hc : q ≥ 4294967296
   ·rw [if_pos hc, decide_eq_true (Or.inl hc)]
   have := h.qy (by omega)
   rw [if_neg hc, u64_in this, u64_in (x := 4294967296 * r) (by omega), u64_in (x := 4294967296 * r + d) (by omega)]
   congr 1
   apply Bool.eq_iff_iff.2
   simp only [decide_eq_true_eq]
   constructor
   ·intro hx; right; omega
   intro hx; rcases hx with hx | hx <;> omega
  by_cases hc : q ≥ 4294967296 ∨ q * yn0 > r * 4294967296 + d
  ·have hq1 := (h.much hc).2
   by_cases ho : r + yn1 ≥ 4294967296
   ·have hl := h.last hc ho
    refine ⟨2, fun k hk => ?_⟩
    obtain ⟨k, rfl⟩ : ∃ j, k = j + 2 := ⟨k - 2, by omega⟩
    show bits_Div64.l1 (k + 1 + 1) y s yn1 yn0 d g r u q = _
    rw [key, decide_eq_true hc, bits_Div64.j4, if_pos rfl, u64_in (x := r + yn1) (by omega), if_pos ho, u64_in (x := q - 1) (by omega), Div64_fin hs hy h.hu h.hd hl (by rw [← hl]; exact hquot) hg, hl]
   obtain ⟨K1, h1⟩ := ih (q - 1) (r + yn1) (by omega) (h.next hc (by omega))
   refine ⟨K1 + 2, fun k hk => ?_⟩
   obtain ⟨k, rfl⟩ : ∃ j, k = j + 2 := ⟨k - 2, by omega⟩
   show bits_Div64.l1 (k + 1 + 1) y s yn1 yn0 d g r u q = _
   rw [key, decide_eq_true hc, bits_Div64.j4, if_pos rfl, u64_in (x := r + yn1) (by omega), if_neg ho, u64_in (x := q - 1) (by omega)]
   exact h1 k (by omega)
  have hl := h.good (by omega)
  refine ⟨2, fun k hk => ?_⟩
  obtain ⟨k, rfl⟩ : ∃ j, k = j + 2 := ⟨k - 2, by omega⟩
  show bits_Div64.l1 (k + 1 + 1) y s yn1 yn0 d g r u q = _
  rw [key, decide_eq_false hc, bits_Div64.j4, if_neg (by decide), Div64_fin hs hy h.hu h.hd hl (by rw [← hl]; exact hquot) hg, hl]
theorem up_or {s P Q : Int} (h : Sh s P Q) {o x : Int} (hx : 0 ≤ x ∧ x < 18446744073709551616) (ho : 0 ≤ o ∧ o < P) : Go.bits .or .u64 o (x % Q * P) = o + x % Q * P := by
 obtain ⟨t, et, _⟩ := h.P1
 obtain ⟨_, _, _, e4, e5, _⟩ := shl_parts h.P0 h.Q0 h.PQ hx
 have hP := h.P_le
 rw [(or_add t ⟨e4, e5⟩ ⟨x % Q, by rw [et]⟩ (by rw [← et]; exact ho) (by omega)).2, Int.add_comm]
theorem up_out0 {s P Q : Int} (h : Sh s P Q) (h0 : ¬ s > 0) {x : Int} (hx : 0 ≤ x ∧ x < 18446744073709551616) : x / Q = 0 := by
 obtain ⟨t, et, es⟩ := h.P1
 have hs := h.s0
 have hP1 : P = 1 := by rw [et, ← es, show s = 0 from by omega]; rfl
 have hQ1 : Q = 18446744073709551616 := by have := h.PQ; rw [hP1] at this; omega
 rw [hQ1]; exact Int.ediv_eq_zero_of_lt hx.1 hx.2
theorem set_same (l : List Int) (i : Nat) (h : l.getD i 0 = 0) : l.set i 0 = l := by
 refine List.ext_getElem (by simp) fun j h1 h2 => ?_
 by_cases hj : j = i
 ·subst hj
  rw [List.getElem_set_self]
  rw [List.getD_eq_getElem?_getD, List.getElem?_eq_getElem h2, Option.getD_some] at h
  exact h.symm
 rw [List.getElem_set_ne (fun e => hj e.symm)]
theorem step_wrap (i n : Nat) (hi : i < n) (hn : n ≤ 8388608) : wrap64 ((i : Int) + 1) = ((i + 1 : Nat) : Int) := by rw [w64 _ (by omega)]; omega
theorem up_step (k : Nat) {s P Q : Int} (h : Sh s P Q) (a out : List Int) (i : Nat) (hi : i < a.length) (hl : a.length ≤ 8388608) (ho : out.length = a.length + 1) (da : Dig 18446744073709551616 a) (hw : 0 ≤ out.getD i 0 ∧ out.getD i 0 < P) (hz : out.getD (i + 1) 0 = 0) :
  whole_amount_up.l0 (k + 1) s out a (a.length : Int) (i : Int) = whole_amount_up.l0 k s ((out.set i (out.getD i 0 + a.getD i 0 % Q * P)).set (i + 1) (a.getD i 0 / Q)) a (a.length : Int) ((i + 1 : Nat) : Int) := by
 have ga := getD_dig (by decide) da i
 have hor := up_or h ga hw
 have hwr := step_wrap i a.length hi hl
 have hout := fun h0 => up_out0 h h0 ga
 have c1 : (i : Int) < (a.length : Int) := by omega
 have c2 : (0 : Int) ≤ (i : Int) := by omega
 have c3 : (i : Int) < (out.length : Int) := by omega
 have c4 := h.s0.1
 have c5 : (0 : Int) ≤ ((i + 1 : Nat) : Int) := by omega
 have c6 : ((i + 1 : Nat) : Int) < (out.length : Int) := by omega
 have c7 : (0 : Int) ≤ 64 - s := by have := h.s0; omega
 have hcount := h.count
 have hL := h.eqL ga
 have hR := h.eqR' (x := a.getD i 0)
 have hset := set_same (out.set i (out.getD i 0 + a.getD i 0 % Q * P)) (i + 1) (by rw [getD_set_ne _ _ _ _ (by omega)]; exact hz)
 have ra := rd_getD a i
 have ro := rd_getD out i
 generalize a.getD i 0 = x at *
 generalize out.getD i 0 = o at *
 clear da hw ga hl hi hz
 rw [whole_amount_up.l0, if_pos c1, if_pos c2, if_pos c1, if_pos c3, if_pos c4, Option.bind_some, ra, ro, hL, hor, hwr, Int.toNat_natCast, Int.toNat_natCast]
 by_cases h0 : s > 0
 ·rw [if_pos h0, hcount, if_pos c7, if_pos c5, if_pos c6, hR]
 have hx0 := hout h0
 rw [if_neg h0, hx0, hset]
theorem up_l0 {s P Q : Int} (h : Sh s P Q) (a : List Int) (hl : a.length ≤ 8388608) (da : Dig 18446744073709551616 a) : ∀ (n i k : Nat) (out : List Int), i + n = a.length → n < k → out.length = a.length + 1 → Dig 18446744073709551616 out → val 18446744073709551616 out = val 18446744073709551616 (a.take i) * P → out.getD i 0 < P → (∀ t, i < t → out.getD t 0 = 0) →
  ∃ r, whole_amount_up.l0 k s out a (a.length : Int) (i : Int) = some r ∧ r.length = a.length + 1 ∧ Dig 18446744073709551616 r ∧ val 18446744073709551616 r = val 18446744073709551616 a * P := by
 intro n
 induction n with
 | zero =>
  intro i k out hi hk ho hd hv hw hz
  obtain ⟨k, rfl⟩ : ∃ j, k = j + 1 := ⟨k - 1, by omega⟩
  refine ⟨out, ?_, ho, hd, by rw [hv, show i = a.length from by omega, List.take_length]⟩
  rw [whole_amount_up.l0, if_neg (by omega)]
 | succ n ih =>
  intro i k out hi hk ho hd hv hw hz
  obtain ⟨k, rfl⟩ : ∃ j, k = j + 1 := ⟨k - 1, by omega⟩
  have hil : i < a.length := by omega
  have ga := getD_dig (by decide) da i
  have go := getD_dig (by decide) hd i
  have hz1 := hz (i + 1) (by omega)
  obtain ⟨e1, e2, e3, e4, e5, e6⟩ := shl_parts h.P0 h.Q0 h.PQ ga
  rw [up_step k h a out i hil hl ho da ⟨go.1, hw⟩ hz1]
  have hP := h.P_le
  have hsum : 0 ≤ out.getD i 0 + a.getD i 0 % Q * P ∧ out.getD i 0 + a.getD i 0 % Q * P < 18446744073709551616 := by
   refine ⟨by omega, ?_⟩
   have h1 : a.getD i 0 % Q + 1 ≤ Q := by have := Int.emod_lt_of_pos (a.getD i 0) h.Q0; omega
   have h2 := Int.mul_le_mul_of_nonneg_right h1 (Int.le_of_lt h.P0)
   rw [Int.mul_comm Q P, h.PQ, Int.add_mul, Int.one_mul] at h2
   omega
  refine ih (i + 1) k _ (by omega) (by omega) (by simp [ho]) ((hd.set i hsum).set (i + 1) ⟨e2, by omega⟩) ?_ ?_ ?_
  ·rw [val_set_getD _ _ _ _ (by simp [ho]; omega), val_set_getD _ _ _ _ (by omega), getD_set_ne _ _ _ _ (by omega), hz1, val_take_getD, hv, Int.pow_succ, Int.add_mul]
   have e7 : a.getD i 0 * 18446744073709551616 ^ i * P = (a.getD i 0 * P) * 18446744073709551616 ^ i := by rw [Int.mul_assoc, Int.mul_comm (18446744073709551616 ^ i) P, ← Int.mul_assoc]
   rw [e7, e1, Int.add_mul, Int.mul_comm (18446744073709551616 ^ i) 18446744073709551616, ← Int.mul_assoc, Int.sub_zero, show out.getD i 0 + a.getD i 0 % Q * P - out.getD i 0 = a.getD i 0 % Q * P from by omega]
   omega
  ·rw [getD_set_eq _ _ _ (by simp [ho]; omega)]; exact e3
  intro t ht
  rw [getD_set_ne _ _ _ _ (by omega), getD_set_ne _ _ _ _ (by omega)]
  exact hz t (by omega)
theorem up_ev {s P Q : Int} (h : Sh s P Q) (a : List Int) (hl : a.length ≤ 8388600) (da : Dig 18446744073709551616 a) :
  ∃ r, Ev (fun k => whole_amount_up.f k a s) r ∧ r.length = a.length + 1 ∧ Dig 18446744073709551616 r ∧ val 18446744073709551616 r = val 18446744073709551616 a * P := by
 have hz : ∀ t, (List.replicate (a.length + 1) (0 : Int)).getD t 0 = 0 := fun t => by
  simp [List.getD_eq_getElem?_getD, List.getElem?_replicate]; split <;> rfl
 obtain ⟨r, hr, hq⟩ := up_l0 h a (by omega) da a.length 0 (a.length + 1) (List.replicate (a.length + 1) 0) (by omega) (by omega) (by simp) (Dig.rep (by decide) _) (by rw [val_replicate]; simp [val]) (by rw [hz]; exact h.P0) (fun t _ => hz t)
 refine ⟨r, ?_, hq⟩
 have hw : wrap64 ((a.length : Int) + 1) = ((a.length + 1 : Nat) : Int) := by rw [w64 _ (by omega)]; omega
 refine Ev.of (fun k => whole_amount_up.mono a s k) (k := a.length + 1) ?_
 rw [whole_amount_up.f, hw, Int.toNat_natCast, if_pos (by omega), if_pos (by omega)]
 exact hr
theorem val_take_set (B : Int) (l : List Int) (i : Nat) (x : Int) (h : i < l.length) : val B ((l.set i x).take (i + 1)) = val B (l.take i) + x * B ^ i := by
 rw [val_take_getD, getD_set_eq _ _ _ h]
 congr 1
 rw [List.take_set_of_le (Nat.le_refl _)]
theorem mul_carry {g v c : Int} (hg : 0 ≤ g ∧ g < 18446744073709551616) (hv : 0 ≤ v ∧ v < 18446744073709551616) (hc : 0 ≤ c ∧ c < 18446744073709551616) :
  ∃ hi lo lo2 c2, bits_Mul64.f g v = some (hi, lo) ∧ bits_Add64.f lo c 0 = some (lo2, c2) ∧ 0 ≤ lo2 ∧ lo2 < 18446744073709551616 ∧ 0 ≤ hi + c2 ∧ hi + c2 < 18446744073709551616 ∧ (hi + c2) * 18446744073709551616 + lo2 = g * v + c := by
 have hb := mul_bound (M := 18446744073709551615) (x := g) (y := v) (by omega) (by omega)
 refine ⟨_, _, _, _, Mul64_eq g v hg hv, Add64_eq _ _ _ (by omega) hc.1 (by omega), ?_⟩
 generalize g * v = p at *
 refine ⟨by omega, by omega, by omega, by omega, by omega⟩
theorem sub_carry {u lo b : Int} (hu : 0 ≤ u ∧ u < 18446744073709551616) (hl : 0 ≤ lo ∧ lo < 18446744073709551616) (hb : 0 ≤ b ∧ b ≤ 1) :
  ∃ s b2, bits_Sub64.f u lo b = some (s, b2) ∧ 0 ≤ s ∧ s < 18446744073709551616 ∧ 0 ≤ b2 ∧ b2 ≤ 1 ∧ s = u - lo - b + b2 * 18446744073709551616 := by
 refine ⟨_, _, Sub64_eq u lo b hu.1 hl hb, by omega, by omega, by split <;> omega, by split <;> omega, by split <;> omega⟩
theorem sub_inv {N U V g u v c b c2 b2 s lo W B : Int} (hN : N = U - g * V + (c + b) * W) (h1 : c2 * B + lo = g * v + c) (h2 : s = u - lo - b + b2 * B) : N + s * W = (U + u * W) - g * (V + v * W) + (c2 + b2) * (W * B) := by
 have e1 : g * (V + v * W) = g * V + (g * v) * W := by rw [Int.mul_add, Int.mul_assoc]
 have e2 : (c2 + b2) * (W * B) = (c2 * B) * W + (b2 * B) * W := by rw [Int.add_mul, Int.mul_comm W B, ← Int.mul_assoc, ← Int.mul_assoc]
 have e3 : g * v = c2 * B + lo - c := by omega
 rw [e1, e2, hN, h2, e3]
 simp only [Int.add_mul, Int.sub_mul]
 omega
theorem subtract_step (k : Nat) (x v : List Int) (g c b hi lo lo2 c2 s b2 : Int) (i n : Nat) (hn : v.length = n) (hi1 : i < n) (hl : n ≤ 8388608) (hx : i < x.length) (h1 : bits_Mul64.f g (v.getD i 0) = some (hi, lo)) (h2 : bits_Add64.f lo c 0 = some (lo2, c2)) (h3 : bits_Sub64.f (x.getD i 0) lo2 b = some (s, b2)) (h4 : 0 ≤ hi + c2 ∧ hi + c2 < 18446744073709551616) :
  whole_subtract.l0 (k + 1) x v g c b v (n : Int) (i : Int) = whole_subtract.l0 k (x.set i s) v g (hi + c2) b2 v (n : Int) ((i + 1 : Nat) : Int) := by
 have hwr := step_wrap i n hi1 hl
 rw [whole_subtract.l0, if_pos (by omega), if_pos (by omega), if_pos (by omega), rd_getD, rd_getD, h1, Option.bind_some, h2, Option.bind_some, if_pos (by omega), h3, Option.bind_some, hwr, u64_in h4, Int.toNat_natCast]
theorem subtract_end (k : Nat) (x v : List Int) (g c b s b2 : Int) (n : Nat) (hn : v.length = n) (hx : n < x.length) (h3 : bits_Sub64.f (x.getD n 0) c b = some (s, b2)) :
  whole_subtract.l0 (k + 1) x v g c b v (n : Int) (n : Int) = some ((b2 == 1), x.set n s) := by
 rw [whole_subtract.l0, if_neg (by omega), hn, if_pos (by omega), if_pos (by omega), rd_getD, h3, Option.bind_some, Int.toNat_natCast]
theorem subtract_l0 (v : List Int) (g : Int) (n : Nat) (hn : v.length = n) (hl : n ≤ 8388608) (hg : 0 ≤ g ∧ g < 18446744073709551616) (dv : Dig 18446744073709551616 v) (u : List Int) (hu : u.length = n + 1) (du : Dig 18446744073709551616 u) : ∀ (m i k : Nat) (x : List Int) (c b : Int), i + m = n → m < k → x.length = n + 1 → Dig 18446744073709551616 x → (∀ t, i ≤ t → x.getD t 0 = u.getD t 0) → 0 ≤ c ∧ c < 18446744073709551616 → 0 ≤ b ∧ b ≤ 1 → val 18446744073709551616 (x.take i) = val 18446744073709551616 (u.take i) - g * val 18446744073709551616 (v.take i) + (c + b) * 18446744073709551616 ^ i →
  ∃ (b2 : Int) (r : List Int), whole_subtract.l0 k x v g c b v (n : Int) (i : Int) = some ((b2 == 1), r) ∧ 0 ≤ b2 ∧ b2 ≤ 1 ∧ r.length = n + 1 ∧ Dig 18446744073709551616 r ∧ val 18446744073709551616 r = val 18446744073709551616 u - g * val 18446744073709551616 v + b2 * 18446744073709551616 ^ (n + 1) := by
 intro m
 induction m with
 | zero =>
  intro i k x c b hi hk hx dx hxu hc hb hv
  obtain ⟨k, rfl⟩ : ∃ j, k = j + 1 := ⟨k - 1, by omega⟩
  have hin : i = n := by omega
  subst hin
  have gu := getD_dig (by decide) du i
  obtain ⟨s, b2, h3, s0, s1, b0, b1, hs⟩ := sub_carry (u := x.getD i 0) (by rw [hxu i (Nat.le_refl _)]; exact gu) hc hb
  refine ⟨b2, x.set i s, subtract_end k x v g c b s b2 i hn (by omega) h3, b0, b1, by simp [hx], dx.set i ⟨s0, s1⟩, ?_⟩
  have e1 : x.set i s = (x.set i s).take (i + 1) := by rw [List.take_of_length_le (by simp [hx])]
  have e2 : val 18446744073709551616 u = val 18446744073709551616 (u.take i) + u.getD i 0 * 18446744073709551616 ^ i := by
   rw [← val_take_getD, List.take_of_length_le (by omega)]
  rw [e1, val_take_set _ _ _ _ (by omega), hv, hs, hxu i (Nat.le_refl _), e2, show v.take i = v from List.take_of_length_le (by omega), Int.pow_succ]
  have e3 : b2 * (18446744073709551616 ^ i * 18446744073709551616) = b2 * 18446744073709551616 * 18446744073709551616 ^ i := by rw [Int.mul_comm (18446744073709551616 ^ i), ← Int.mul_assoc]
  rw [e3]
  simp only [Int.add_mul, Int.sub_mul]
  omega
 | succ m ih =>
  intro i k x c b hi hk hx dx hxu hc hb hv
  obtain ⟨k, rfl⟩ : ∃ j, k = j + 1 := ⟨k - 1, by omega⟩
  have gu := getD_dig (by decide) du i
  have gv := getD_dig (by decide) dv i
  obtain ⟨hi', lo, lo2, c2, h1, h2, l0, l1, p0, p1, hp⟩ := mul_carry hg gv hc
  obtain ⟨s, b2, h3, s0, s1, b0, b1, hs⟩ := sub_carry (u := x.getD i 0) (by rw [hxu i (Nat.le_refl _)]; exact gu) ⟨l0, l1⟩ hb
  rw [subtract_step k x v g c b hi' lo lo2 c2 s b2 i n hn (by omega) hl (by omega) h1 h2 h3 ⟨p0, p1⟩]
  refine ih (i + 1) k (x.set i s) (hi' + c2) b2 (by omega) (by omega) (by simp [hx]) (dx.set i ⟨s0, s1⟩) (fun t ht => by rw [getD_set_ne _ _ _ _ (by omega)]; exact hxu t (by omega)) ⟨p0, p1⟩ ⟨b0, b1⟩ ?_
  rw [val_take_set _ _ _ _ (by omega), val_take_getD, val_take_getD, Int.pow_succ]
  rw [hxu i (Nat.le_refl _)] at hs
  exact sub_inv hv hp hs
theorem subtract_ev (u v : List Int) (g : Int) (n : Nat) (hn : v.length = n) (hl : n ≤ 8388608) (hg : 0 ≤ g ∧ g < 18446744073709551616) (dv : Dig 18446744073709551616 v) (hu : u.length = n + 1) (du : Dig 18446744073709551616 u) :
  ∃ (b2 : Int) (r : List Int), Ev (fun k => whole_subtract.f k u v g) ((b2 == 1), r) ∧ 0 ≤ b2 ∧ b2 ≤ 1 ∧ r.length = n + 1 ∧ Dig 18446744073709551616 r ∧ val 18446744073709551616 r = val 18446744073709551616 u - g * val 18446744073709551616 v + b2 * 18446744073709551616 ^ (n + 1) := by
 obtain ⟨b2, r, hr, hq⟩ := subtract_l0 v g n hn hl hg dv u hu du n 0 (n + 1) u 0 0 (by omega) (by omega) hu du (fun _ _ => rfl) (by omega) (by omega) (by simp [val])
 refine ⟨b2, r, Ev.of (fun k => whole_subtract.mono u v g k) (k := n + 1) ?_, hq⟩
 rw [whole_subtract.f, hn]
 exact hr
theorem add_step' (k : Nat) (x v : List Int) (c : Int) (i n : Nat) (hn : v.length = n) (hi1 : i < n) (hl : n ≤ 8388608) (hx : i < x.length) (dx : Dig 18446744073709551616 x) (dv : Dig 18446744073709551616 v) (hc : 0 ≤ c ∧ c ≤ 1) :
  whole_add.l0 (k + 1) x v c v (n : Int) (i : Int) = whole_add.l0 k (x.set i ((x.getD i 0 + v.getD i 0 + c) % 18446744073709551616)) v ((x.getD i 0 + v.getD i 0 + c) / 18446744073709551616) v (n : Int) ((i + 1 : Nat) : Int) := by
 have hwr := step_wrap i n hi1 hl
 have gx := getD_dig (by decide) dx i
 have gv := getD_dig (by decide) dv i
 rw [whole_add.l0, if_pos (by omega), if_pos (by omega), if_pos (by omega), if_pos (by omega), rd_getD, rd_getD, Add64_eq _ _ _ gx.1 gv.1 hc, Option.bind_some, hwr, Int.toNat_natCast]
theorem add_end (k : Nat) (x v : List Int) (c : Int) (n : Nat) (hn : v.length = n) (hx : n < x.length) :
  whole_add.l0 (k + 1) x v c v (n : Int) (n : Int) = some (x.set n (IntKind.u64.wrap (x.getD n 0 + c))) := by
 rw [whole_add.l0, if_neg (by omega), hn, if_pos (by omega), if_pos (by omega), rd_getD, Int.toNat_natCast]
theorem add_l0 (v : List Int) (n : Nat) (hn : v.length = n) (hl : n ≤ 8388608) (dv : Dig 18446744073709551616 v) (u : List Int) (hu : u.length = n + 1) (du : Dig 18446744073709551616 u) : ∀ (m i k : Nat) (x : List Int) (c : Int), i + m = n → m < k → x.length = n + 1 → Dig 18446744073709551616 x → (∀ t, i ≤ t → x.getD t 0 = u.getD t 0) → 0 ≤ c ∧ c ≤ 1 → val 18446744073709551616 (x.take i) + c * 18446744073709551616 ^ i = val 18446744073709551616 (u.take i) + val 18446744073709551616 (v.take i) →
  ∃ (b2 : Int) (r : List Int), whole_add.l0 k x v c v (n : Int) (i : Int) = some r ∧ 0 ≤ b2 ∧ r.length = n + 1 ∧ Dig 18446744073709551616 r ∧ val 18446744073709551616 r + b2 * 18446744073709551616 ^ (n + 1) = val 18446744073709551616 u + val 18446744073709551616 v := by
 intro m
 induction m with
 | zero =>
  intro i k x c hi hk hx dx hxu hc hv
  obtain ⟨k, rfl⟩ : ∃ j, k = j + 1 := ⟨k - 1, by omega⟩
  have hin : i = n := by omega
  subst hin
  have gu := getD_dig (by decide) du i
  rw [add_end k x v c i hn (by omega), hxu i (Nat.le_refl _), IntKind.wrap_u64]
  refine ⟨(u.getD i 0 + c) / 18446744073709551616, _, rfl, by omega, by simp [hx], dx.set i (by omega), ?_⟩
  have e1 : ∀ y, x.set i y = (x.set i y).take (i + 1) := fun y => by rw [List.take_of_length_le (by simp [hx])]
  have e2 : val 18446744073709551616 u = val 18446744073709551616 (u.take i) + u.getD i 0 * 18446744073709551616 ^ i := by
   rw [← val_take_getD, List.take_of_length_le (by omega)]
  rw [e1, val_take_set _ _ _ _ (by omega), e2, Int.pow_succ]
  rw [show v.take i = v from List.take_of_length_le (by omega)] at hv
  have := add_step (val 18446744073709551616 (x.take i)) c ((u.getD i 0 + c) / 18446744073709551616) ((u.getD i 0 + c) % 18446744073709551616) (u.getD i 0) 0 _ _ (18446744073709551616 ^ i) 18446744073709551616 (by omega) hv
  omega
 | succ m ih =>
  intro i k x c hi hk hx dx hxu hc hv
  obtain ⟨k, rfl⟩ : ∃ j, k = j + 1 := ⟨k - 1, by omega⟩
  have gu := getD_dig (by decide) du i
  have gv := getD_dig (by decide) dv i
  rw [add_step' k x v c i n hn (by omega) hl (by omega) dx dv hc, hxu i (Nat.le_refl _)]
  refine ih (i + 1) k _ _ (by omega) (by omega) (by simp [hx]) (dx.set i (by omega)) (fun t ht => by rw [getD_set_ne _ _ _ _ (by omega)]; exact hxu t (by omega)) (by omega) ?_
  rw [val_take_set _ _ _ _ (by omega), val_take_getD, val_take_getD, Int.pow_succ]
  exact add_step _ c _ _ _ _ _ _ _ _ (by omega) hv
theorem add_ev' (u v : List Int) (n : Nat) (hn : v.length = n) (hl : n ≤ 8388608) (dv : Dig 18446744073709551616 v) (hu : u.length = n + 1) (du : Dig 18446744073709551616 u) :
  ∃ (b2 : Int) (r : List Int), Ev (fun k => whole_add.f k u v) r ∧ 0 ≤ b2 ∧ r.length = n + 1 ∧ Dig 18446744073709551616 r ∧ val 18446744073709551616 r + b2 * 18446744073709551616 ^ (n + 1) = val 18446744073709551616 u + val 18446744073709551616 v := by
 obtain ⟨b2, r, hr, hq⟩ := add_l0 v n hn hl dv u hu du n 0 (n + 1) u 0 (by omega) (by omega) hu du (fun _ _ => rfl) (by omega) (by simp [val])
 refine ⟨b2, r, Ev.of (fun k => whole_add.mono u v k) (k := n + 1) ?_, hq⟩
 rw [whole_add.f, hn]
 exact hr
theorem bitLen_up {x : Nat} (h0 : 0 < x) (h : x < 2 ^ 64) : 1 ≤ Lib.bitLen x ∧ Lib.bitLen x ≤ 64 ∧ x < 2 ^ Lib.bitLen x ∧ 2 ^ (Lib.bitLen x - 1) ≤ x := by
 have h1 := Lib.bitLen_half x (by omega) h
 have h2 := Lib.bitLen_le x 64 (by omega) h
 refine ⟨by omega, h2, ?_, ?_⟩
 ·refine Classical.byContradiction fun hc => ?_
  have h3 := Lib.bitLen_shift (Lib.bitLen x) x (by omega) h
  have h4 : 0 < x / 2 ^ Lib.bitLen x := Nat.div_pos (by omega) (Nat.pow_pos (by decide))
  have h5 := Lib.bitLen_half (x / 2 ^ Lib.bitLen x) (by omega) (Nat.lt_of_le_of_lt (Nat.div_le_self _ _) h)
  omega
 refine Classical.byContradiction fun hc => ?_
 have h3 := Lib.bitLen_le x (Lib.bitLen x - 1) (by omega) (by omega)
 omega
theorem clz {x : Int} (h : 0 < x ∧ x < 18446744073709551616) : ∃ s P Q, bits_LeadingZeros64.f x = some s ∧ Sh s P Q ∧ 9223372036854775808 ≤ x * P ∧ x * P < 18446744073709551616 := by
 obtain ⟨n, rfl⟩ := Int.eq_ofNat_of_zero_le (Int.le_of_lt h.1)
 have hn : 0 < n ∧ n < 2 ^ 64 := by omega
 obtain ⟨b1, b2, b3, b4⟩ := bitLen_up hn.1 hn.2
 refine ⟨64 - (Lib.bitLen n : Int), 2 ^ (64 - Lib.bitLen n), 2 ^ Lib.bitLen n, ?_, ⟨by omega, Int.pow_pos (by decide), Int.pow_pos (by decide), ?_, ⟨_, rfl, by omega⟩, ⟨_, rfl, by omega⟩⟩, ?_, ?_⟩
 ·rw [bits_LeadingZeros64.f, if_pos (by omega), Int.toNat_natCast]
 ·rw [← Int.pow_add, show 64 - Lib.bitLen n + Lib.bitLen n = 64 from by omega]; decide
 ·have e : (9223372036854775808 : Int) = ((2 ^ (Lib.bitLen n - 1) * 2 ^ (64 - Lib.bitLen n) : Nat) : Int) := by
   rw [← Nat.pow_add, show Lib.bitLen n - 1 + (64 - Lib.bitLen n) = 63 from by omega]; rfl
  rw [e, show ((n : Int) * 2 ^ (64 - Lib.bitLen n)) = ((n * 2 ^ (64 - Lib.bitLen n) : Nat) : Int) from by simp]
  exact Int.ofNat_le.2 (Nat.mul_le_mul_right _ b4)
 have e : (18446744073709551616 : Int) = ((2 ^ Lib.bitLen n * 2 ^ (64 - Lib.bitLen n) : Nat) : Int) := by
  rw [← Nat.pow_add, show Lib.bitLen n + (64 - Lib.bitLen n) = 64 from by omega]; rfl
 rw [e, show ((n : Int) * 2 ^ (64 - Lib.bitLen n)) = ((n * 2 ^ (64 - Lib.bitLen n) : Nat) : Int) from by simp]
 exact Int.ofNat_lt.2 (Nat.mul_lt_mul_of_pos_right b3 (Nat.pow_pos (by decide)))
theorem scale_div {X a P G r : Int} (hP : 0 < P) (ha : 0 < a) (h : X * P = G * (a * P) + r) (h0 : 0 ≤ r) (h1 : r < a * P) : X / a = G ∧ X % a = r / P := by
 have e : r = (X - G * a) * P := by rw [Int.sub_mul, h, Int.mul_assoc]; omega
 have d0 : 0 ≤ X - G * a := by
  refine Classical.byContradiction fun hc => ?_
  have := Int.mul_le_mul_of_nonneg_right (show X - G * a ≤ -1 by omega) (Int.le_of_lt hP)
  omega
 have d1 : X - G * a < a := by
  refine Classical.byContradiction fun hc => ?_
  have := Int.mul_le_mul_of_nonneg_right (show a ≤ X - G * a by omega) (Int.le_of_lt hP)
  omega
 have hq : X / a = G := div_eq ha (by omega) (by rw [Int.add_mul, Int.one_mul]; omega)
 refine ⟨hq, ?_⟩
 have h2 := Int.mul_ediv_add_emod X a
 rw [hq, Int.mul_comm a G] at h2
 rw [e, Int.mul_ediv_cancel _ (Int.ne_of_gt hP)]
 omega
theorem tdivmod {u d : Int} (hu : 0 ≤ u ∧ u < 18446744073709551616) (hd : 0 < d) : IntKind.u64.wrap (Int.tdiv u d) = u / d ∧ IntKind.u64.wrap (u - IntKind.u64.wrap (IntKind.u64.wrap (Int.tdiv u d) * d)) = u % d := by
 have h1 := Int.mul_ediv_add_emod u d
 have h2 := Int.emod_nonneg u (Int.ne_of_gt hd)
 have h3 := Int.emod_lt_of_pos u hd
 have h4 : 0 ≤ u / d := Int.ediv_nonneg hu.1 (Int.le_of_lt hd)
 have h5 : u / d ≤ u := by
  have := Int.mul_le_mul_of_nonneg_right (show (1 : Int) ≤ d by omega) h4
  rw [Int.one_mul] at this; omega
 have e : IntKind.u64.wrap (Int.tdiv u d) = u / d := by
  rw [Int.tdiv_eq_ediv_of_nonneg hu.1, u64_in ⟨h4, by omega⟩]
 refine ⟨e, ?_⟩
 have h6 : 0 ≤ u / d * d := Int.mul_nonneg h4 (Int.le_of_lt hd)
 rw [Int.mul_comm] at h1
 rw [e, u64_in (x := u / d * d) ⟨h6, by omega⟩, show u - u / d * d = u % d from by omega, u64_in ⟨h2, by omega⟩]
theorem rest_eq {y u d g : Int} (hy : 0 < y ∧ y < 18446744073709551616) (hg : (u * 4294967296 + d) / y = g) : IntKind.u64.wrap (IntKind.u64.wrap (IntKind.u64.wrap (u * 4294967296) + d) - IntKind.u64.wrap (g * y)) = (u * 4294967296 + d) % y := by
 have h1 := Int.emod_nonneg (u * 4294967296 + d) (show y ≠ 0 by omega)
 have h2 := Int.emod_lt_of_pos (u * 4294967296 + d) hy.1
 have h3 := Int.mul_ediv_add_emod (u * 4294967296 + d) y
 rw [hg, Int.mul_comm y g] at h3
 simp only [IntKind.wrap_u64]
 omega
theorem Div64_j2 {y yn1 yn0 u d1 d0 s P Q : Int} (hs : Sh s P Q) (hy : y = yn1 * 4294967296 + yn0) (y1 : 2147483648 ≤ yn1 ∧ yn1 < 4294967296) (y0 : 0 ≤ yn0 ∧ yn0 < 4294967296) (hu : 0 ≤ u ∧ u < y) (h1 : 0 ≤ d1 ∧ d1 < 4294967296) (h0 : 0 ≤ d0 ∧ d0 < 4294967296) :
  Ev (fun k => bits_Div64.j2 k y s yn1 yn0 u d1 d0 ((u * 4294967296 + d1) / y)) ((u * 4294967296 + d1) / y * 4294967296 + ((u * 4294967296 + d1) % y * 4294967296 + d0) / y, ((u * 4294967296 + d1) % y * 4294967296 + d0) % y / P) := by
 have hyM : 0 < y ∧ y < 18446744073709551616 := by omega
 have hst := Half.start hy y1 y0 hu h1
 have hr0 := Int.emod_nonneg (u * 4294967296 + d1) (show y ≠ 0 by omega)
 have hr1 := Int.emod_lt_of_pos (u * 4294967296 + d1) hyM.1
 obtain ⟨K, hK⟩ := Div64_l1 hs hyM ((u * 4294967296 + d1) / y) hst.quot _ _ _ (Nat.le_refl _) (Half.start hy y1 y0 ⟨hr0, hr1⟩ h0)
 obtain ⟨t1, t2⟩ := tdivmod (u := (u * 4294967296 + d1) % y) (d := yn1) ⟨hr0, by omega⟩ (by omega)
 have he := rest_eq hyM (rfl : (u * 4294967296 + d1) / y = _)
 refine ⟨K + 1, fun k hk => ?_⟩
 obtain ⟨k, rfl⟩ : ∃ j, k = j + 1 := ⟨k - 1, by omega⟩
 have hk := hK k (by omega)
 show bits_Div64.j2 (k + 1) y s yn1 yn0 u d1 d0 ((u * 4294967296 + d1) / y) = _
 rw [bits_Div64.j2, if_neg (show ¬ yn1 = 0 by omega), he, t2, t1]
 exact hk
theorem Div64_ev {a0 a1 a2 : Int} (h0 : 0 ≤ a0 ∧ a0 < a2) (h1 : 0 ≤ a1 ∧ a1 < 18446744073709551616) (h2 : a2 < 18446744073709551616) : Ev (fun k => bits_Div64.f k a0 a1 a2) ((a0 * 18446744073709551616 + a1) / a2, (a0 * 18446744073709551616 + a1) % a2) := by
 by_cases hz : a0 = 0
 ·refine ⟨0, fun k _ => ?_⟩
  show bits_Div64.f k a0 a1 a2 = _
  have h4 : 0 ≤ a1 / a2 := Int.ediv_nonneg h1.1 (by omega)
  have h5 : a1 / a2 ≤ a1 := Int.ediv_le_self _ h1.1
  rw [bits_Div64.f, if_neg (by omega), if_neg (by omega), if_pos hz, Int.tdiv_eq_ediv_of_nonneg h1.1, Int.tmod_eq_emod_of_nonneg h1.1, u64_in ⟨h4, by omega⟩, hz, Int.zero_mul, Int.zero_add]
 obtain ⟨s, P, Q, hc, hs, hP1, hP2⟩ := clz (x := a2) (by omega)
 have hs0 := hs.s0
 have hP0 := hs.P0
 have hQ0 := hs.Q0
 have haQ : a2 < Q := by
  refine Classical.byContradiction fun hx => ?_
  have := Int.mul_le_mul_of_nonneg_right (show Q ≤ a2 by omega) (Int.le_of_lt hP0)
  rw [Int.mul_comm Q P, hs.PQ] at this
  omega
 have e2 : shl .u64 a2 s = a2 * P := by rw [hs.eqL (by omega), Int.emod_eq_of_lt (by omega) haQ]
 have e0 : shl .u64 a0 s = a0 * P := by rw [hs.eqL (by omega), Int.emod_eq_of_lt (by omega) (by omega)]
 have e1 : shl .u64 a1 s = a1 % Q * P := hs.eqL h1
 have e3 : shr .u64 a1 (64 - s) = a1 / Q := hs.eqR'
 obtain ⟨p1, p2, p3, p4, p5, _⟩ := shl_parts hP0 hQ0 hs.PQ h1
 obtain ⟨t, et, _⟩ := hs.P1
 have a0P : 0 ≤ a0 * P := Int.mul_nonneg h0.1 (Int.le_of_lt hP0)
 have a0P2 : a0 * P + P ≤ a2 * P := by
  have := Int.mul_le_mul_of_nonneg_right (show a0 + 1 ≤ a2 by omega) (Int.le_of_lt hP0)
  rw [Int.add_mul, Int.one_mul] at this; exact this
 have hPle := hs.P_le
 have eor : Go.bits .or .u64 (a0 * P) (a1 / Q) = a0 * P + a1 / Q := (or_add t ⟨a0P, by omega⟩ ⟨a0, by rw [et]⟩ (by rw [← et]; exact ⟨p2, p3⟩) (by omega)).1
 have hX : (a0 * 18446744073709551616 + a1) * P = (a0 * P + a1 / Q) * 18446744073709551616 + a1 % Q * P := by
  rw [Int.add_mul, Int.add_mul, p1, Int.mul_assoc, Int.mul_comm 18446744073709551616 P, ← Int.mul_assoc]; omega
 have hw1 : IntKind.u64.wrap s = s := u64_in (by omega)
 have hcnt := hs.count
 clear p1
 generalize hyy : a2 * P = y at *
 generalize huu : a0 * P + a1 / Q = u at *
 generalize hww : a1 % Q * P = w at *
 have hu : 0 ≤ u ∧ u < y := by omega
 have hyn : y = y / 4294967296 * 4294967296 + y % 4294967296 := by omega
 have y1 : 2147483648 ≤ y / 4294967296 ∧ y / 4294967296 < 4294967296 := by omega
 have y0 : 0 ≤ y % 4294967296 ∧ y % 4294967296 < 4294967296 := by omega
 have w1 : 0 ≤ w / 4294967296 ∧ w / 4294967296 < 4294967296 := by omega
 have w0 : 0 ≤ w % 4294967296 ∧ w % 4294967296 < 4294967296 := by omega
 obtain ⟨K, hK⟩ := Div64_l0 s (w % 4294967296) _ (Div64_j2 hs hyn y1 y0 hu w1 w0) _ _ _ (Nat.le_refl _) (Half.start hyn y1 y0 hu w1)
 obtain ⟨t1, t2⟩ := tdivmod (u := u) (d := y / 4294967296) (by omega) (by omega)
 have hres := scale_div (X := a0 * 18446744073709551616 + a1) (a := a2) (P := P) (G := (u * 4294967296 + w / 4294967296) / y * 4294967296 + ((u * 4294967296 + w / 4294967296) % y * 4294967296 + w % 4294967296) / y) (r := ((u * 4294967296 + w / 4294967296) % y * 4294967296 + w % 4294967296) % y) hP0 (by omega) (by
  have g1 := Int.mul_ediv_add_emod (u * 4294967296 + w / 4294967296) y
  have g2 := Int.mul_ediv_add_emod ((u * 4294967296 + w / 4294967296) % y * 4294967296 + w % 4294967296) y
  rw [hX, hyy, Int.add_mul, Int.mul_comm _ y, Int.mul_comm _ y, ← Int.mul_assoc]
  omega) (Int.emod_nonneg _ (by omega)) (by rw [hyy]; exact Int.emod_lt_of_pos _ (by omega))
 rw [hres.1, hres.2]
 refine ⟨K, fun k hk => ?_⟩
 have hk := hK k hk
 show bits_Div64.f k a0 a1 a2 = _
 rw [bits_Div64.f, if_neg (by omega), if_neg (by omega), if_neg hz, hc, Option.bind_some, hw1, if_pos hs0.1, hcnt, if_pos (by omega), e2, e0, e1, e3, eor, if_neg (by omega), and32 y (by omega), and32 w (by omega), t2, t1]
 exact hk
structure Fix (N vn1 vn2 un2 g r : Int) : Prop where
 hv1 : 0 < vn1 ∧ vn1 < 18446744073709551616
 hv2 : 0 ≤ vn2 ∧ vn2 < 18446744073709551616
 hu2 : 0 ≤ un2 ∧ un2 < 18446744073709551616
 hg : 0 ≤ g ∧ g < 18446744073709551616
 hr : 0 ≤ r ∧ r < 18446744073709551616
 hN : N = g * vn1 + r
 top : N * 18446744073709551616 + un2 < (g + 1) * (vn1 * 18446744073709551616 + vn2)
theorem Fix.eqs {N vn1 vn2 un2 g r : Int} (h : Fix N vn1 vn2 un2 g r) : N * 18446744073709551616 + un2 - g * (vn1 * 18446744073709551616 + vn2) = r * 18446744073709551616 + un2 - g * vn2 := by
 have := h.hN
 rw [Int.mul_add, ← Int.mul_assoc]
 generalize g * vn1 = x at *
 generalize g * vn2 = y at *
 omega
theorem fix_run {N vn1 vn2 un2 : Int} : ∀ (n : Nat) (g r : Int), (18446744073709551616 - r).toNat ≤ n → Fix N vn1 vn2 un2 g r → ∃ g2, quo_fix (n + 1) g r vn2 vn1 un2 = some g2 ∧ 0 ≤ g2 ∧ g2 < 18446744073709551616 ∧ g2 * (vn1 * 18446744073709551616 + vn2) ≤ N * 18446744073709551616 + un2 ∧ N * 18446744073709551616 + un2 < (g2 + 1) * (vn1 * 18446744073709551616 + vn2) := by
 intro n
 induction n with
 | zero => intro g r hn h; have := h.hr; omega
 | succ n ih =>
  intro g r hn h
  have e := h.eqs
  have hr := h.hr
  have hu := h.hu2
  have hb := mul_bound (M := 18446744073709551615) (x := g) (y := vn2) (by have := h.hg; omega) (by have := h.hv2; omega)
  rw [quo_fix, Mul64_eq g vn2 h.hg h.hv2, Option.bind_some]
  have hp : g * vn2 = g * vn2 / 18446744073709551616 * 18446744073709551616 + g * vn2 % 18446744073709551616 := by omega
  have hl : 0 ≤ g * vn2 % 18446744073709551616 ∧ g * vn2 % 18446744073709551616 < 18446744073709551616 := by omega
  show ∃ g2, (if g * vn2 / 18446744073709551616 < r then some g else if g * vn2 / 18446744073709551616 = r ∧ g * vn2 % 18446744073709551616 ≤ un2 then some g else _) = some g2 ∧ _
  by_cases hc : g * vn2 ≤ r * 18446744073709551616 + un2
  ·refine ⟨g, ?_, h.hg.1, h.hg.2, by omega, h.top⟩
   by_cases h1 : g * vn2 / 18446744073709551616 < r
   ·rw [if_pos h1]
   rw [if_neg h1, if_pos (by omega)]
  have h1 : ¬ g * vn2 / 18446744073709551616 < r := by omega
  have h2 : ¬ (g * vn2 / 18446744073709551616 = r ∧ g * vn2 % 18446744073709551616 ≤ un2) := by omega
  rw [if_neg h1, if_neg h2]
  have hv1 := h.hv1
  have hg1 : 1 ≤ g := by
   have := h.hg
   refine Classical.byContradiction fun hx => ?_
   have : g = 0 := by omega
   rw [this] at hc; omega
  have htop : N * 18446744073709551616 + un2 < (g - 1 + 1) * (vn1 * 18446744073709551616 + vn2) := by
   rw [show g - 1 + 1 = g from by omega]; omega
  have hg' := h.hg
  rw [u64_in (x := g - 1) (by omega)]
  by_cases ho : r + vn1 < 18446744073709551616
  ·rw [u64_in (x := r + vn1) (by omega), if_neg (by omega)]
   refine ih (g - 1) (r + vn1) (by omega) ⟨h.hv1, h.hv2, h.hu2, by omega, by omega, ?_, htop⟩
   rw [Int.sub_mul, Int.one_mul]; have := h.hN; omega
  have hw : IntKind.u64.wrap (r + vn1) = r + vn1 - 18446744073709551616 := by rw [IntKind.wrap_u64]; omega
  rw [hw, if_pos (by omega)]
  refine ⟨g - 1, rfl, by omega, by omega, ?_, htop⟩
  have h9 : (g - 1) * vn2 = g * vn2 - vn2 := by rw [Int.sub_mul, Int.one_mul]
  have h8 := h.hv2
  have h10 : (g - 1) * (vn1 * 18446744073709551616 + vn2) = g * (vn1 * 18446744073709551616 + vn2) - (vn1 * 18446744073709551616 + vn2) := by rw [Int.sub_mul, Int.one_mul]
  rw [h10]
  omega
theorem guess_ev {un un1 un2 vn1 vn2 : Int} (hu : 0 ≤ un ∧ un < 18446744073709551616) (hu1 : 0 ≤ un1 ∧ un1 < 18446744073709551616) (hu2 : 0 ≤ un2 ∧ un2 < 18446744073709551616) (hv1 : 9223372036854775808 ≤ vn1 ∧ vn1 < 18446744073709551616) (hv2 : 0 ≤ vn2 ∧ vn2 < 18446744073709551616) :
  ∃ g, Ev (fun k => quo_guess k un un1 un2 vn1 vn2) g ∧ 0 ≤ g ∧ g < 18446744073709551616 ∧ ((g * (vn1 * 18446744073709551616 + vn2) ≤ (un * 18446744073709551616 + un1) * 18446744073709551616 + un2 ∧ (un * 18446744073709551616 + un1) * 18446744073709551616 + un2 < (g + 1) * (vn1 * 18446744073709551616 + vn2)) ∨ (vn1 ≤ un ∧ g = 18446744073709551615)) := by
 by_cases hc : un < vn1
 ·obtain ⟨K, hK⟩ := Div64_ev (a0 := un) (a1 := un1) (a2 := vn1) ⟨hu.1, hc⟩ hu1 hv1.2
  have h1 := Int.mul_ediv_add_emod (un * 18446744073709551616 + un1) vn1
  have h2 := Int.emod_nonneg (un * 18446744073709551616 + un1) (show vn1 ≠ 0 by omega)
  have h3 := Int.emod_lt_of_pos (un * 18446744073709551616 + un1) (show 0 < vn1 by omega)
  have h4 : 0 ≤ (un * 18446744073709551616 + un1) / vn1 := Int.ediv_nonneg (by omega) (by omega)
  have h5 : (un * 18446744073709551616 + un1) / vn1 < 18446744073709551616 := Int.ediv_lt_of_lt_mul (by omega) (by omega)
  rw [Int.mul_comm] at h1
  obtain ⟨g, hg, g0, g1, g2, g3⟩ := fix_run (N := un * 18446744073709551616 + un1) (vn1 := vn1) (vn2 := vn2) (un2 := un2) _ _ _ (Nat.le_refl _) ⟨by omega, hv2, hu2, ⟨h4, h5⟩, ⟨h2, by omega⟩, h1.symm, by
   have h6 : 0 ≤ ((un * 18446744073709551616 + un1) / vn1 + 1) * vn2 := Int.mul_nonneg (by omega) hv2.1
   rw [Int.mul_add, ← Int.mul_assoc, Int.add_mul ((un * 18446744073709551616 + un1) / vn1) 1 vn1, Int.one_mul]
   omega⟩
  obtain ⟨J, hJ⟩ := Ev.of (fun k => quo_fix.mono k _ _ _ _ _) hg
  refine ⟨g, ⟨max K J, fun k hk => ?_⟩, g0, g1, .inl ⟨g2, g3⟩⟩
  have e1 : bits_Div64.f k un un1 vn1 = _ := hK k (by omega)
  have e2 := hJ k (by omega)
  show quo_guess k un un1 un2 vn1 vn2 = some g
  rw [quo_guess, if_pos hc, e1, Option.bind_some]
  exact e2
 refine ⟨18446744073709551615, ⟨0, fun k _ => ?_⟩, by omega, by omega, .inr ⟨by omega, rfl⟩⟩
 show quo_guess k un un1 un2 vn1 vn2 = _
 rw [quo_guess, if_neg hc]
theorem digit_bounds {U V W U0 V0 g un un1 un2 vn1 vn2 : Int} (hW : 0 < W) (hU : U = U0 + ((un * 18446744073709551616 + un1) * 18446744073709551616 + un2) * W) (hV : V = V0 + (vn1 * 18446744073709551616 + vn2) * W) (hU0 : 0 ≤ U0 ∧ U0 < W) (hV0 : 0 ≤ V0 ∧ V0 < W) (hlt : U < V * 18446744073709551616)
  (hu : 0 ≤ un) (hu1 : 0 ≤ un1) (hu2 : 0 ≤ un2) (hv1 : 9223372036854775808 ≤ vn1) (hv2 : 0 ≤ vn2 ∧ vn2 < 18446744073709551616) (hg : 0 ≤ g ∧ g < 18446744073709551616)
  (h : (g * (vn1 * 18446744073709551616 + vn2) ≤ (un * 18446744073709551616 + un1) * 18446744073709551616 + un2 ∧ (un * 18446744073709551616 + un1) * 18446744073709551616 + un2 < (g + 1) * (vn1 * 18446744073709551616 + vn2)) ∨ (vn1 ≤ un ∧ g = 18446744073709551615)) : U < (g + 1) * V ∧ (g - 1) * V ≤ U := by
 have hV2 : V ≤ (vn1 * 18446744073709551616 + vn2 + 1) * W := by rw [Int.add_mul _ 1 W, Int.one_mul]; omega
 have hVn : 0 ≤ V := by
  have := Int.mul_nonneg (show 0 ≤ vn1 * 18446744073709551616 + vn2 by omega) (Int.le_of_lt hW)
  omega
 rcases h with ⟨h1, h2⟩ | ⟨h1, h2⟩
 ·have hT0 : 0 ≤ (un * 18446744073709551616 + un1) * 18446744073709551616 + un2 := by omega
  have hv20 : 18446744073709551616 ≤ vn1 * 18446744073709551616 + vn2 := by omega
  generalize (un * 18446744073709551616 + un1) * 18446744073709551616 + un2 = T at *
  generalize vn1 * 18446744073709551616 + vn2 = v2 at *
  constructor
  ·have a1 := Int.mul_le_mul_of_nonneg_right (show T + 1 ≤ (g + 1) * v2 by omega) (Int.le_of_lt hW)
   have a2 := Int.mul_le_mul_of_nonneg_left (show v2 * W ≤ V by omega) (show 0 ≤ g + 1 by omega)
   rw [Int.add_mul, Int.one_mul, Int.mul_assoc] at a1
   omega
  by_cases hg0 : g = 0
  ·rw [hg0]
   have := Int.mul_nonneg hT0 (Int.le_of_lt hW)
   omega
  have a1 := Int.mul_le_mul_of_nonneg_left hV2 (show 0 ≤ g - 1 by omega)
  rw [← Int.mul_assoc] at a1
  have a2 : (g - 1) * (v2 + 1) ≤ T := by
   rw [Int.mul_add, Int.mul_one, Int.sub_mul, Int.one_mul]; omega
  have a3 := Int.mul_le_mul_of_nonneg_right a2 (Int.le_of_lt hW)
  omega
 subst h2
 constructor
 ·rw [Int.mul_comm V] at hlt; exact hlt
 have a1 := Int.mul_le_mul_of_nonneg_left hV2 (show (0 : Int) ≤ 18446744073709551615 - 1 by decide)
 rw [← Int.mul_assoc] at a1
 have a2 : (18446744073709551615 - 1) * (vn1 * 18446744073709551616 + vn2 + 1) ≤ (un * 18446744073709551616 + un1) * 18446744073709551616 + un2 := by omega
 have a3 := Int.mul_le_mul_of_nonneg_right a2 (Int.le_of_lt hW)
 omega
theorem top_two (v : List Int) (m : Nat) (hl : v.length = m + 2) : val 18446744073709551616 v = val 18446744073709551616 (v.take m) + (v.getD (m + 1) 0 * 18446744073709551616 + v.getD m 0) * 18446744073709551616 ^ m := by
 have e : val 18446744073709551616 v = val 18446744073709551616 (v.take (m + 1 + 1)) := by rw [List.take_of_length_le (by omega)]
 rw [e, val_take_getD, val_take_getD, Int.pow_succ, Int.mul_comm (18446744073709551616 ^ m) 18446744073709551616, ← Int.mul_assoc, Int.add_mul]
 omega
theorem top_three (S : List Int) (m : Nat) (hl : S.length = m + 3) : val 18446744073709551616 S = val 18446744073709551616 (S.take m) + ((S.getD (m + 2) 0 * 18446744073709551616 + S.getD (m + 1) 0) * 18446744073709551616 + S.getD m 0) * 18446744073709551616 ^ m := by
 have e : val 18446744073709551616 S = val 18446744073709551616 (S.take (m + 2 + 1)) := by rw [List.take_of_length_le (by omega)]
 rw [e, val_take_getD, val_take_getD, val_take_getD, show (18446744073709551616 : Int) ^ (m + 2) = 18446744073709551616 ^ m * 18446744073709551616 * 18446744073709551616 from by rw [Int.pow_succ, Int.pow_succ], Int.pow_succ]
 generalize (18446744073709551616 : Int) ^ m = W
 generalize S.getD (m + 2) 0 = a
 generalize S.getD (m + 1) 0 = b
 generalize S.getD m 0 = c
 have e1 : b * (W * 18446744073709551616) = b * 18446744073709551616 * W := by rw [Int.mul_comm W, ← Int.mul_assoc]
 have e2 : a * (W * 18446744073709551616 * 18446744073709551616) = a * 18446744073709551616 * 18446744073709551616 * W := by
  rw [Int.mul_assoc W, Int.mul_comm W, ← Int.mul_assoc, ← Int.mul_assoc]
 have e3 : ((a * 18446744073709551616 + b) * 18446744073709551616 + c) * W = a * 18446744073709551616 * 18446744073709551616 * W + b * 18446744073709551616 * W + c * W := by
  rw [Int.add_mul _ b, Int.add_mul, Int.add_mul]
 rw [e1, e2, e3]
 omega
theorem seg_getD (u : List Int) (j n t : Nat) (h : t < n) : ((u.drop j).take n).getD t 0 = u.getD (j + t) 0 := by
 rw [List.getD_eq_getElem?_getD, List.getD_eq_getElem?_getD, List.getElem?_take_of_lt h, List.getElem?_drop]
theorem go_digit (u v : List Int) (n j : Nat) (hn : v.length = n) (hn2 : 2 ≤ n) (hl : n ≤ 8388600) (hj : j + n < u.length) (du : Dig 18446744073709551616 u) (dv : Dig 18446744073709551616 v) (hv1 : 9223372036854775808 ≤ v.getD (n - 1) 0) (hlt : val 18446744073709551616 ((u.drop j).take (n + 1)) < val 18446744073709551616 v * 18446744073709551616) (hjl : u.length ≤ 8388608) :
  ∃ (g : Int) (S : List Int) (K : Nat), 0 ≤ g ∧ g < 18446744073709551616 ∧ S.length = n + 1 ∧ Dig 18446744073709551616 S ∧ val 18446744073709551616 S < val 18446744073709551616 v ∧ val 18446744073709551616 ((u.drop j).take (n + 1)) = g * val 18446744073709551616 v + val 18446744073709551616 S ∧
   ∀ k, K ≤ k → ∀ q : List Int, j < q.length → quo_go (k + 1) u v q (j : Int) = quo_go k (splice u j S) v (q.set j g) ((j : Int) - 1) := by
 obtain ⟨m, rfl⟩ : ∃ m, n = m + 2 := ⟨n - 2, by omega⟩
 have hSl : ((u.drop j).take (m + 2 + 1)).length = m + 3 := by simp; omega
 have dS : Dig 18446744073709551616 ((u.drop j).take (m + 2 + 1)) := (du.drop j).take _
 have t3 := top_three _ m hSl
 have t2 := top_two v m hn
 rw [seg_getD _ _ _ _ (by omega), seg_getD _ _ _ _ (by omega), seg_getD _ _ _ _ (by omega)] at t3
 have d0 := getD_dig (by decide) du (j + m)
 have d1 := getD_dig (by decide) du (j + (m + 1))
 have d2 := getD_dig (by decide) du (j + (m + 2))
 have w0 := getD_dig (by decide) dv m
 have w1 := getD_dig (by decide) dv (m + 1)
 rw [show m + 2 - 1 = m + 1 from by omega] at hv1
 have U0 := val_nonneg (B := 18446744073709551616) (by decide) (dS.take m)
 have U1 := val_lt (B := 18446744073709551616) (by decide) (dS.take m)
 rw [List.length_take, Nat.min_eq_left (by omega)] at U1
 have V0 := val_nonneg (B := 18446744073709551616) (by decide) (dv.take m)
 have V1 := val_lt (B := 18446744073709551616) (by decide) (dv.take m)
 rw [List.length_take, Nat.min_eq_left (by omega)] at V1
 obtain ⟨g, ⟨K1, hg⟩, g0, g1, hgc⟩ := guess_ev d2 d1 d0 ⟨hv1, w1.2⟩ w0
 obtain ⟨b1, b2⟩ := digit_bounds (pow_pos (by decide) m) t3 t2 ⟨U0, U1⟩ ⟨V0, V1⟩ hlt d2.1 d1.1 d0.1 hv1 w0 ⟨g0, g1⟩ hgc
 clear t3 t2 hgc U0 U1 V0 V1
 have hUn := val_nonneg (B := 18446744073709551616) (by decide) dS
 have hVn := val_nonneg (B := 18446744073709551616) (by decide) dv
 have hVl := val_lt (B := 18446744073709551616) (by decide) dv
 rw [hn] at hVl
 have hpw : (18446744073709551616 : Int) ^ (m + 2) ≤ 18446744073709551616 ^ (m + 2 + 1) := pow_le_pow (by decide) (by omega)
 obtain ⟨bb, r, ⟨K2, hr⟩, bb0, bb1, hrl, dr, hrv⟩ := subtract_ev ((u.drop j).take (m + 2 + 1)) v g (m + 2) hn (by omega) ⟨g0, g1⟩ dv (by rw [hSl]) dS
 have r0 := val_nonneg (B := 18446744073709551616) (by decide) dr
 have r1 := val_lt (B := 18446744073709551616) (by decide) dr
 rw [hrl] at r1
 have head : ∀ k (q : List Int), K1 ≤ k → K2 ≤ k → j < q.length → quo_go (k + 1) u v q (j : Int) = if (bb == 1) = true then (whole_add.f k r v).bind fun s => quo_go k (splice u j s) v (q.set j (IntKind.u64.wrap (g - 1))) ((j : Int) - 1) else quo_go k (splice u j r) v (q.set j g) ((j : Int) - 1) := by
  intro k q k1 k2 hq
  have e1 := hg k k1
  have e2 : whole_subtract.f k ((u.drop j).take (m + 2 + 1)) v g = _ := hr k k2
  have c1 : (j : Int) + (v.length : Int) < (u.length : Int) ∧ (j : Int) < (q.length : Int) ∧ 2 ≤ v.length := by omega
  have i1 : (j : Int) + (v.length : Int) = ((j + (m + 2) : Nat) : Int) := by omega
  have i2 : ((j + (m + 2) : Nat) : Int) - 1 = ((j + (m + 1) : Nat) : Int) := by omega
  have i3 : ((j + (m + 2) : Nat) : Int) - 2 = ((j + m : Nat) : Int) := by omega
  have i4 : (v.length : Int) - 1 = ((m + 1 : Nat) : Int) := by omega
  have i5 : (v.length : Int) - 2 = ((m : Nat) : Int) := by omega
  rw [quo_go, if_neg (by omega), if_pos c1, i4, i5, i1, i2, i3, rd_getD, rd_getD, rd_getD, rd_getD, rd_getD, Int.toNat_natCast, hn]
  replace e1 : quo_guess k (u.getD (j + (m + 2)) 0) (u.getD (j + (m + 1)) 0) (u.getD (j + m) 0) (v.getD (m + 1) 0) (v.getD m 0) = some g := e1
  rw [e1, Option.bind_some, e2, Option.bind_some]
 generalize hU : val 18446744073709551616 ((u.drop j).take (m + 2 + 1)) = U at *
 generalize hVV : val 18446744073709551616 v = V at *
 have bx1 : (g + 1) * V = g * V + V := by rw [Int.add_mul, Int.one_mul]
 have bx2 : (g - 1) * V = g * V - V := by rw [Int.sub_mul, Int.one_mul]
 by_cases hneg : U - g * V < 0
 ·have hbb : bb = 1 := by
   have : bb = 0 ∨ bb = 1 := by omega
   rcases this with h | h
   ·rw [h, Int.zero_mul] at hrv; omega
   exact h
  subst hbb
  rw [Int.one_mul] at hrv
  have hg1 : 1 ≤ g := by
   refine Classical.byContradiction fun hx => ?_
   have : g = 0 := by omega
   rw [this, Int.zero_mul] at hneg; omega
  obtain ⟨c, r2, ⟨K3, hr2⟩, c0, hr2l, dr2, hr2v⟩ := add_ev' r v (m + 2) hn (by omega) dv hrl dr
  have s0 := val_nonneg (B := 18446744073709551616) (by decide) dr2
  have s1 := val_lt (B := 18446744073709551616) (by decide) dr2
  rw [hr2l] at s1
  rw [hVV] at hr2v
  have hc : c = 1 := by
   have h3 : c = 0 ∨ c = 1 ∨ 2 ≤ c := by omega
   rcases h3 with h | h | h
   ·rw [h, Int.zero_mul] at hr2v; omega
   ·exact h
   have := Int.mul_le_mul_of_nonneg_right h (Int.le_of_lt (pow_pos (B := 18446744073709551616) (by decide) (m + 2 + 1)))
   omega
  rw [hc, Int.one_mul] at hr2v
  refine ⟨g - 1, r2, max K1 (max K2 K3), by omega, by omega, hr2l, dr2, by omega, by rw [bx2]; omega, fun k hk q hq => ?_⟩
  have e3 : whole_add.f k r v = some r2 := hr2 k (by omega)
  rw [head k q (by omega) (by omega) hq, if_pos (by decide), e3, Option.bind_some, u64_in (x := g - 1) (by omega)]
 have hbb : bb = 0 := by
  have : bb = 0 ∨ bb = 1 := by omega
  rcases this with h | h
  ·exact h
  rw [h, Int.one_mul] at hrv; omega
 subst hbb
 rw [Int.zero_mul] at hrv
 refine ⟨g, r, max K1 K2, g0, g1, hrl, dr, by omega, by omega, fun k hk q hq => ?_⟩
 rw [head k q (by omega) (by omega) hq, if_neg (by decide)]
theorem val_take_of_lt {l : List Int} {n : Nat} (hd : Dig 18446744073709551616 l) (h : val 18446744073709551616 l < 18446744073709551616 ^ n) : val 18446744073709551616 (l.take n) = val 18446744073709551616 l ∧ val 18446744073709551616 (l.drop n) = 0 := by
 by_cases hn : n ≤ l.length
 ·have e := val_split 18446744073709551616 l n hn
  have h1 := val_nonneg (B := 18446744073709551616) (by decide) (hd.take n)
  have h2 := val_nonneg (B := 18446744073709551616) (by decide) (hd.drop n)
  have h3 : val 18446744073709551616 (l.drop n) = 0 := by
   refine Classical.byContradiction fun hx => ?_
   have := Int.mul_le_mul_of_nonneg_left (show 1 ≤ val 18446744073709551616 (l.drop n) by omega) (Int.le_of_lt (pow_pos (B := 18446744073709551616) (by decide) n))
   omega
  rw [h3, Int.mul_zero] at e
  exact ⟨by omega, h3⟩
 rw [List.take_of_length_le (by omega), List.drop_eq_nil_of_le (by omega)]
 exact ⟨rfl, rfl⟩
theorem splice_drop (u S : List Int) (j : Nat) (h : j + S.length ≤ u.length) : (splice u j S).drop j = S ++ u.drop (j + S.length) ∧ (splice u j S).length = u.length ∧ val 18446744073709551616 (splice u j S) = val 18446744073709551616 (u.take j) + 18446744073709551616 ^ j * (val 18446744073709551616 S + 18446744073709551616 ^ S.length * val 18446744073709551616 (u.drop (j + S.length))) := by
 have hl : (u.take j).length = j := by rw [List.length_take]; omega
 refine ⟨?_, ?_, ?_⟩
 ·unfold splice
  rw [List.append_assoc, List.drop_left' hl]
 ·unfold splice
  simp
  omega
 unfold splice
 rw [List.append_assoc, val_append, val_append, hl]
theorem val_parts (u : List Int) (j n : Nat) (h : j + n ≤ u.length) : val 18446744073709551616 u = val 18446744073709551616 (u.take j) + 18446744073709551616 ^ j * (val 18446744073709551616 ((u.drop j).take n) + 18446744073709551616 ^ n * val 18446744073709551616 (u.drop (j + n))) := by
 rw [val_split 18446744073709551616 u j (by omega), val_split 18446744073709551616 (u.drop j) n (by simp; omega), List.drop_drop]
theorem go_run (v : List Int) (n : Nat) (hn : v.length = n) (hn2 : 2 ≤ n) (hl : n ≤ 8388600) (dv : Dig 18446744073709551616 v) (hv1 : 9223372036854775808 ≤ v.getD (n - 1) 0) : ∀ (m : Nat) (u q : List Int), m + n ≤ u.length → Dig 18446744073709551616 u → u.length ≤ 8388608 → val 18446744073709551616 (u.drop m) < val 18446744073709551616 v → Dig 18446744073709551616 q → m ≤ q.length → (∀ t, t < m → q.getD t 0 = 0) →
  ∃ u2 q2, Ev (fun k => quo_go k u v q ((m : Int) - 1)) (u2, q2) ∧ u2.length = u.length ∧ Dig 18446744073709551616 u2 ∧ Dig 18446744073709551616 q2 ∧ q2.length = q.length ∧ val 18446744073709551616 u2 < val 18446744073709551616 v ∧ val 18446744073709551616 u2 + val 18446744073709551616 q2 * val 18446744073709551616 v = val 18446744073709551616 u + val 18446744073709551616 q * val 18446744073709551616 v := by
 have hVl := val_lt (B := 18446744073709551616) (by decide) dv
 rw [hn] at hVl
 intro m
 induction m with
 | zero =>
  intro u q hmu du hul hlt dq hmq hz
  refine ⟨u, q, ⟨1, fun k hk => ?_⟩, rfl, du, dq, rfl, hlt, rfl⟩
  obtain ⟨k, rfl⟩ : ∃ j, k = j + 1 := ⟨k - 1, by omega⟩
  show quo_go (k + 1) u v q (((0 : Nat) : Int) - 1) = some (u, q)
  rw [quo_go, if_pos (by omega)]
 | succ m ih =>
  intro u q hmu du hul hlt dq hmq hz
  have hmu' : m < u.length := by omega
  have dm := du.get m hmu'
  have dd := du.drop (m + 1)
  have hrest := val_take_of_lt (n := n) dd (by omega)
  have hseg : val 18446744073709551616 ((u.drop m).take (n + 1)) < val 18446744073709551616 v * 18446744073709551616 := by
   rw [List.drop_eq_getElem_cons hmu', List.take_succ_cons]
   show u[m] + 18446744073709551616 * val 18446744073709551616 ((u.drop (m + 1)).take n) < _
   rw [hrest.1]
   omega
  obtain ⟨g, S, K, g0, g1, hSl, dS, hSV, hval, hstep⟩ := go_digit u v n m hn hn2 hl (by omega) du dv hv1 hseg hul
  have hz0 : val 18446744073709551616 (u.drop (m + (n + 1))) = 0 := by
   have := hrest.2
   rw [List.drop_drop, show m + 1 + n = m + (n + 1) from by omega] at this
   exact this
  obtain ⟨s1, s2, s3⟩ := splice_drop u S m (by omega)
  have p := val_parts u m (n + 1) (by omega)
  rw [hSl, hz0, Int.mul_zero, Int.add_zero] at s3
  rw [hz0, Int.mul_zero, Int.add_zero, hval] at p
  have dsp : Dig 18446744073709551616 (splice u m S) := Dig.append.2 ⟨Dig.append.2 ⟨du.take m, dS⟩, du.drop _⟩
  obtain ⟨u2, q2, ⟨J, hJ⟩, h1, h2, h3, h4, h5, h6⟩ := ih (splice u m S) (q.set m g) (by rw [s2]; omega) dsp (by rw [s2]; exact hul)
   (by rw [s1, val_append, hSl, hz0, Int.mul_zero, Int.add_zero]; exact hSV) (dq.set m ⟨g0, g1⟩) (by simp; omega) (fun t ht => by rw [getD_set_ne _ _ _ _ (by omega)]; exact hz t (by omega))
  refine ⟨u2, q2, ⟨max K J + 1, fun k hk => ?_⟩, h1.trans s2, h2, h3, by rw [h4]; simp, h5, ?_⟩
  ·obtain ⟨k, rfl⟩ : ∃ j, k = j + 1 := ⟨k - 1, by omega⟩
   have e1 := hstep k (by omega) q (by omega)
   have e2 := hJ k (by omega)
   show quo_go (k + 1) u v q (((m + 1 : Nat) : Int) - 1) = some (u2, q2)
   rw [show ((m + 1 : Nat) : Int) - 1 = (m : Int) from by omega, e1]
   exact e2
  rw [h6, s3, p, val_set_getD _ _ _ _ (by omega), hz m (by omega), Int.sub_zero, Int.add_mul]
  have e : g * 18446744073709551616 ^ m * val 18446744073709551616 v = 18446744073709551616 ^ m * (g * val 18446744073709551616 v) := by
   rw [Int.mul_comm g, Int.mul_assoc]
  rw [e, Int.mul_add]
  omega
theorem byLimb_l0 (a : List Int) (d : Int) (hd : 0 < d ∧ d < 18446744073709551616) (hl : a.length ≤ 8388608) (da : Dig 18446744073709551616 a) : ∀ (n : Nat) (q : List Int) (r i : Int), n ≤ a.length → i = (n : Int) - 1 → q.length = a.length → Dig 18446744073709551616 q → (∀ t, t < n → q.getD t 0 = 0) → 0 ≤ r ∧ r < d → val 18446744073709551616 q * d + r * 18446744073709551616 ^ n + val 18446744073709551616 (a.take n) = val 18446744073709551616 a →
  ∃ q2 r2, Ev (fun k => whole_amount_byLimb.l0 k a d q r i) (q2, r2) ∧ Rep 18446744073709551616 (val 18446744073709551616 a / d) q2 ∧ r2 = val 18446744073709551616 a % d := by
 intro n
 induction n with
 | zero =>
  intro q r i hn hi hq dq hz hr hv
  obtain ⟨q2, ⟨K, hK⟩, h1, h2, h3⟩ := whole_trimmed_ev (B := 18446744073709551616) (l := q) (by omega) dq
  have hv' : val 18446744073709551616 q * d + r = val 18446744073709551616 a := by
   rw [← hv]; simp [val]
  have hdiv : val 18446744073709551616 a / d = val 18446744073709551616 q := div_eq hd.1 (by omega) (by rw [Int.add_mul, Int.one_mul]; omega)
  refine ⟨q2, r, ⟨K + 1, fun k hk => ?_⟩, ⟨h1, h2, by rw [h3, hdiv]⟩, ?_⟩
  ·obtain ⟨k, rfl⟩ : ∃ j, k = j + 1 := ⟨k - 1, by omega⟩
   have hk' : whole_trimmed.f k q = some q2 := hK k (by omega)
   show whole_amount_byLimb.l0 (k + 1) a d q r i = _
   rw [whole_amount_byLimb.l0, if_neg (by omega), hk', Option.bind_some]
  have h4 := Int.mul_ediv_add_emod (val 18446744073709551616 a) d
  rw [hdiv, Int.mul_comm] at h4
  omega
 | succ n ih =>
  intro q r i hn hi hq dq hz hr hv
  have hi' : i = (n : Int) := by omega
  subst hi'
  have ga := getD_dig (by decide) da n
  obtain ⟨K, hK⟩ := Div64_ev (a0 := r) (a1 := a.getD n 0) (a2 := d) hr ga hd.2
  have h1 := Int.mul_ediv_add_emod (r * 18446744073709551616 + a.getD n 0) d
  have h2 := Int.emod_nonneg (r * 18446744073709551616 + a.getD n 0) (Int.ne_of_gt hd.1)
  have h3 := Int.emod_lt_of_pos (r * 18446744073709551616 + a.getD n 0) hd.1
  have h4 : 0 ≤ (r * 18446744073709551616 + a.getD n 0) / d := Int.ediv_nonneg (by omega) (by omega)
  have h5 : (r * 18446744073709551616 + a.getD n 0) / d < 18446744073709551616 := Int.ediv_lt_of_lt_mul hd.1 (by omega)
  generalize (r * 18446744073709551616 + a.getD n 0) / d = g at *
  generalize hr' : (r * 18446744073709551616 + a.getD n 0) % d = r' at *
  clear hr'
  obtain ⟨q2, r2, ⟨J, hJ⟩, hq2⟩ := ih (q.set n g) r' ((n : Int) - 1) (by omega) rfl (by simp [hq]) (dq.set n ⟨h4, h5⟩) (fun t ht => by rw [getD_set_ne _ _ _ _ (by omega)]; exact hz t (by omega)) ⟨h2, h3⟩ (by
   rw [← hv, val_set_getD _ _ _ _ (by omega), hz n (by omega), val_take_getD, Int.sub_zero, Int.pow_succ, Int.add_mul]
   generalize (18446744073709551616 : Int) ^ n = W
   have e1 : g * W * d = d * g * W := by rw [Int.mul_comm (g * W), ← Int.mul_assoc]
   have e2 : r * (W * 18446744073709551616) = r * 18446744073709551616 * W := by rw [Int.mul_comm W, ← Int.mul_assoc]
   have e3 : (d * g + r') * W = (r * 18446744073709551616 + a.getD n 0) * W := by rw [h1]
   rw [Int.add_mul, Int.add_mul] at e3
   rw [e1, e2]
   omega)
  refine ⟨q2, r2, ⟨K + J + 1, fun k hk => ?_⟩, hq2⟩
  obtain ⟨k, rfl⟩ : ∃ j, k = j + 1 := ⟨k - 1, by omega⟩
  have e1 : bits_Div64.f k r (a.getD n 0) d = _ := hK k (by omega)
  have e2 := hJ k (by omega)
  show whole_amount_byLimb.l0 (k + 1) a d q r (n : Int) = _
  rw [whole_amount_byLimb.l0, if_pos (by omega), if_pos (by omega), if_pos (by omega), rd_getD, e1, Option.bind_some, if_pos (by omega), Int.toNat_natCast, w64 _ (by omega)]
  exact e2
theorem byLimb_ev (a : List Int) (d : Int) (hd : 0 < d ∧ d < 18446744073709551616) (hl : a.length ≤ 8388608) (da : Dig 18446744073709551616 a) :
  ∃ q2, Ev (fun k => whole_amount_byLimb.f k a d) (q2, val 18446744073709551616 a % d) ∧ Rep 18446744073709551616 (val 18446744073709551616 a / d) q2 := by
 have hz : ∀ t, (List.replicate a.length (0 : Int)).getD t 0 = 0 := fun t => by
  simp [List.getD_eq_getElem?_getD, List.getElem?_replicate]; split <;> rfl
 obtain ⟨q2, r2, ⟨K, hK⟩, h1, h2⟩ := byLimb_l0 a d hd hl da a.length (List.replicate a.length 0) 0 ((a.length : Int) - 1) (Nat.le_refl _) rfl (by simp) (Dig.rep (by decide) _) (fun t _ => hz t) (by omega) (by rw [val_replicate, List.take_length]; simp)
 subst h2
 refine ⟨q2, ⟨K, fun k hk => ?_⟩, h1⟩
 show whole_amount_byLimb.f k a d = _
 rw [whole_amount_byLimb.f, if_pos (by omega), Int.toNat_natCast, if_pos (by omega), w64 _ (by omega)]
 exact hK k hk
theorem down_or {s P Q : Int} (h : Sh s P Q) {o x : Int} (hx : 0 ≤ x ∧ x < 18446744073709551616) (ho : 0 ≤ o ∧ o < Q) : Go.bits .or .u64 o (x % P * Q) = o + x % P * Q := by
 obtain ⟨t, et, _⟩ := h.Q1
 obtain ⟨_, _, _, e4, e5, _⟩ := shl_parts h.Q0 h.P0 (by rw [Int.mul_comm]; exact h.PQ) hx
 have hQ := h.Q_le
 rw [(or_add t ⟨e4, e5⟩ ⟨x % P, by rw [et]⟩ (by rw [← et]; exact ho) (by omega)).2, Int.add_comm]
theorem down_out0 {s P Q : Int} (h : Sh s P Q) (h0 : ¬ s > 0) (x : Int) : x % P = 0 := by
 obtain ⟨t, et, es⟩ := h.P1
 have hs := h.s0
 have hP1 : P = 1 := by rw [et, ← es, show s = 0 from by omega]; rfl
 rw [hP1]; omega
def downSet (out : List Int) (i : Nat) (x P Q : Int) : List Int := if i = 0 then out.set 0 (x / P) else (out.set i (x / P)).set (i - 1) (out.getD (i - 1) 0 + x % P * Q)
theorem set_getD_same (l : List Int) (i : Nat) : l.set i (l.getD i 0) = l := by
 refine List.ext_getElem (by simp) fun j h1 h2 => ?_
 by_cases hj : i = j
 ·subst hj
  rw [List.getElem_set_self, List.getD_eq_getElem?_getD, List.getElem?_eq_getElem h2, Option.getD_some]
 rw [List.getElem_set_ne hj]
theorem down_step (k : Nat) {s P Q : Int} (h : Sh s P Q) (a out : List Int) (i : Nat) (hi : i < a.length) (hl : a.length ≤ 8388608) (ho : out.length = a.length) (da : Dig 18446744073709551616 a) (hz : out.getD i 0 = 0) (hw : 0 < i → 0 ≤ out.getD (i - 1) 0 ∧ out.getD (i - 1) 0 < Q) :
  whole_amount_down.l0 (k + 1) s out a (a.length : Int) (i : Int) = whole_amount_down.l0 k s (downSet out i (a.getD i 0) P Q) a (a.length : Int) ((i + 1 : Nat) : Int) := by
 have ga := getD_dig (by decide) da i
 have hwr := step_wrap i a.length hi hl
 have c1 : (i : Int) < (a.length : Int) := by omega
 have c2 : (0 : Int) ≤ (i : Int) := by omega
 have c3 : (i : Int) < (out.length : Int) := by omega
 have c4 := h.s0.1
 have c7 : (0 : Int) ≤ 64 - s := by have := h.s0; omega
 have hcount := h.count
 have hR := h.eqR (x := a.getD i 0)
 have hL := h.eqL' ga
 have hx : 0 ≤ a.getD i 0 / P ∧ a.getD i 0 / P < 18446744073709551616 := by
  have h1 := Int.ediv_nonneg ga.1 (Int.le_of_lt h.P0)
  have h2 := Int.ediv_le_self P ga.1
  exact ⟨h1, by omega⟩
 have hor0 := or_nil hx
 have ra := rd_getD a i
 have ro := rd_getD out i
 rw [hz] at ro
 by_cases hi0 : i = 0
 ·subst hi0
  rw [whole_amount_down.l0, if_pos c1, if_pos c2, if_pos c1, if_pos c3, if_pos c4, Option.bind_some, ra, ro, hR, hor0, hwr, Int.toNat_natCast, if_neg (show ¬ ((0 : Nat) : Int) > 0 by decide), ite_self, downSet, if_pos rfl]
 have hpr : wrap64 ((i : Int) - 1) = ((i - 1 : Nat) : Int) := by rw [w64 _ (by omega)]; omega
 have rp := rd_getD (out.set i (a.getD i 0 / P)) (i - 1)
 rw [getD_set_ne _ _ _ _ (by omega)] at rp
 have hor := down_or h ga (hw (by omega))
 have c5 : (0 : Int) ≤ ((i - 1 : Nat) : Int) := by omega
 have c6 : ((i - 1 : Nat) : Int) < (out.length : Int) := by omega
 have c8 : (i : Int) > 0 := by omega
 rw [whole_amount_down.l0, if_pos c1, if_pos c2, if_pos c1, if_pos c3, if_pos c4, Option.bind_some, ra, ro, hR, hor0, hwr, hpr, Int.toNat_natCast, Int.toNat_natCast, rp, downSet, if_neg hi0]
 by_cases h0 : s > 0
 ·rw [if_pos h0, if_pos c8, if_pos c5, if_pos c6, hcount, if_pos c7, hL, hor]
 rw [if_neg h0, down_out0 h h0, Int.zero_mul, Int.add_zero]
 have e := set_getD_same (out.set i (a.getD i 0 / P)) (i - 1)
 rw [getD_set_ne _ _ _ _ (by omega)] at e
 rw [e]
theorem down_val {P Q A x V : Int} (hP : 0 < P) (hPQ : P * Q = 18446744073709551616) (i : Nat) (hi : 0 < i) (hV : V = A / P) :
  V + (x / P) * 18446744073709551616 ^ i + (x % P * Q) * 18446744073709551616 ^ (i - 1) = (A + x * 18446744073709551616 ^ i) / P := by
 obtain ⟨j, rfl⟩ : ∃ j, i = j + 1 := ⟨i - 1, by omega⟩
 rw [Nat.add_sub_cancel, Int.pow_succ]
 generalize (18446744073709551616 : Int) ^ j = W
 rw [← hPQ, hV]
 have h1 := Int.mul_ediv_add_emod x P
 have e : A + x * (W * (P * Q)) = A + (x * W * Q) * P := by
  rw [Int.mul_comm P Q, ← Int.mul_assoc W, ← Int.mul_assoc x, ← Int.mul_assoc x W Q]
 rw [e, Int.add_mul_ediv_right _ _ (Int.ne_of_gt hP)]
 have e2 : x * W * Q = x / P * (W * (P * Q)) + x % P * Q * W := by
  have : x * W * Q = (P * (x / P) + x % P) * W * Q := by rw [h1]
  rw [this, Int.add_mul, Int.add_mul]
  congr 1
  ·rw [Int.mul_comm P (x / P), Int.mul_assoc, Int.mul_assoc, ← Int.mul_assoc P W Q, Int.mul_comm P W, Int.mul_assoc]
  rw [Int.mul_assoc, Int.mul_comm W Q, ← Int.mul_assoc]
 rw [e2]; omega
theorem down_l0 {s P Q : Int} (h : Sh s P Q) (a : List Int) (hl : a.length ≤ 8388608) (da : Dig 18446744073709551616 a) : ∀ (n i : Nat) (out : List Int), i + n = a.length → out.length = a.length → Dig 18446744073709551616 out → val 18446744073709551616 out = val 18446744073709551616 (a.take i) / P → (∀ t, i ≤ t → out.getD t 0 = 0) → (0 < i → out.getD (i - 1) 0 < Q) →
  ∃ r, Ev (fun k => whole_amount_down.l0 k s out a (a.length : Int) (i : Int)) r ∧ Rep 18446744073709551616 (val 18446744073709551616 a / P) r := by
 intro n
 induction n with
 | zero =>
  intro i out hi ho hd hv hz hw
  obtain ⟨r, ⟨K, hr⟩, h1, h2, h3⟩ := whole_trimmed_ev (B := 18446744073709551616) (l := out) (by omega) hd
  refine ⟨r, ⟨K + 1, fun k hk => ?_⟩, h1, h2, by rw [h3, hv, show i = a.length from by omega, List.take_length]⟩
  obtain ⟨k, rfl⟩ : ∃ j, k = j + 1 := ⟨k - 1, by omega⟩
  have hk' : whole_trimmed.f k out = some r := hr k (by omega)
  show whole_amount_down.l0 (k + 1) s out a (a.length : Int) (i : Int) = some r
  rw [whole_amount_down.l0, if_neg (by omega), hk', Option.bind_some]
 | succ n ih =>
  intro i out hi ho hd hv hz hw
  have hil : i < a.length := by omega
  have ga := getD_dig (by decide) da i
  have hzi := hz i (Nat.le_refl _)
  have hwi : 0 < i → 0 ≤ out.getD (i - 1) 0 ∧ out.getD (i - 1) 0 < Q := fun x => ⟨(getD_dig (by decide) hd (i - 1)).1, hw x⟩
  have hx1 := Int.ediv_nonneg ga.1 (Int.le_of_lt h.P0)
  have hx2 : a.getD i 0 / P < Q := Int.ediv_lt_of_lt_mul h.P0 (by rw [Int.mul_comm, h.PQ]; exact ga.2)
  have hQ := h.Q_le
  obtain ⟨_, _, _, e4, e5, _⟩ := shl_parts h.Q0 h.P0 (by rw [Int.mul_comm]; exact h.PQ) ga
  have hm1 : a.getD i 0 % P + 1 ≤ P := by have := Int.emod_lt_of_pos (a.getD i 0) h.P0; omega
  have hm2 := Int.mul_le_mul_of_nonneg_right hm1 (Int.le_of_lt h.Q0)
  rw [h.PQ, Int.add_mul, Int.one_mul] at hm2
  obtain ⟨r, ⟨K, hr⟩, hq⟩ := ih (i + 1) (downSet out i (a.getD i 0) P Q) (by omega) (by unfold downSet; split <;> simp [ho])
   (by unfold downSet; split
       ·exact hd.set 0 ⟨hx1, by omega⟩
       rename_i hi0
       have := hwi (by omega)
       exact (hd.set i ⟨hx1, by omega⟩).set (i - 1) ⟨by omega, by omega⟩)
   (by unfold downSet; split
       ·rename_i hi0; subst hi0
        rw [val_set_getD _ _ _ _ (by omega), hzi, hv, val_take_getD]
        simp [val]
       rename_i hi0
       rw [val_set_getD _ _ _ _ (by simp; omega), val_set_getD _ _ _ _ (by omega), getD_set_ne _ _ _ _ (by omega), hzi, val_take_getD, ← down_val h.P0 h.PQ i (by omega) hv, Int.sub_zero, show out.getD (i - 1) 0 + a.getD i 0 % P * Q - out.getD (i - 1) 0 = a.getD i 0 % P * Q from by omega])
   (by intro t ht
       unfold downSet; split
       ·rw [getD_set_ne _ _ _ _ (by omega)]; exact hz t (by omega)
       rw [getD_set_ne _ _ _ _ (by omega), getD_set_ne _ _ _ _ (by omega)]; exact hz t (by omega))
   (by intro _
       rw [Nat.add_sub_cancel]
       unfold downSet; split
       ·rename_i hi0; subst hi0
        rw [getD_set_eq _ _ _ (by omega)]; exact hx2
       rw [getD_set_ne _ _ _ _ (by omega), getD_set_eq _ _ _ (by omega)]; exact hx2)
  refine ⟨r, ⟨K + 1, fun k hk => ?_⟩, hq⟩
  obtain ⟨k, rfl⟩ : ∃ j, k = j + 1 := ⟨k - 1, by omega⟩
  show whole_amount_down.l0 (k + 1) s out a (a.length : Int) (i : Int) = some r
  rw [down_step k h a out i hil hl ho da hzi hwi]
  exact hr k (by omega)
theorem down_ev {s P Q : Int} (h : Sh s P Q) (a : List Int) (hl : a.length ≤ 8388608) (da : Dig 18446744073709551616 a) :
  ∃ r, Ev (fun k => whole_amount_down.f k a s) r ∧ Rep 18446744073709551616 (val 18446744073709551616 a / P) r := by
 have hz : ∀ t, (List.replicate a.length (0 : Int)).getD t 0 = 0 := fun t => by
  simp [List.getD_eq_getElem?_getD, List.getElem?_replicate]; split <;> rfl
 obtain ⟨r, ⟨K, hr⟩, hq⟩ := down_l0 h a hl da a.length 0 (List.replicate a.length 0) (by omega) (by simp) (Dig.rep (by decide) _) (by rw [val_replicate]; simp [val]) (fun t _ => hz t) (fun x => absurd x (by decide))
 refine ⟨r, ⟨K, fun k hk => ?_⟩, hq⟩
 show whole_amount_down.f k a s = some r
 rw [whole_amount_down.f, if_pos (by omega), Int.toNat_natCast, if_pos (by omega)]
 exact hr k hk
theorem normal {b v : List Int} {n : Nat} {P : Int} (hn : b.length = n) (hn2 : 2 ≤ n) (hv : v.length = n + 1) (db : Dig 18446744073709551616 b) (dv : Dig 18446744073709551616 v) (hP : 0 < P) (hdvd : ∃ Q, P * Q = 18446744073709551616) (h1 : 9223372036854775808 ≤ b.getD (n - 1) 0 * P) (h2 : b.getD (n - 1) 0 * P < 18446744073709551616) (hval : val 18446744073709551616 v = val 18446744073709551616 b * P) :
  val 18446744073709551616 (v.take n) = val 18446744073709551616 b * P ∧ 9223372036854775808 ≤ (v.take n).getD (n - 1) 0 ∧ 18446744073709551616 ^ (n - 1) * P ≤ val 18446744073709551616 b * P := by
 obtain ⟨m, rfl⟩ : ∃ m, n = m + 1 := ⟨n - 1, by omega⟩
 rw [Nat.add_sub_cancel] at *
 have eb : val 18446744073709551616 b = val 18446744073709551616 (b.take m) + b.getD m 0 * 18446744073709551616 ^ m := by
  have := val_take_getD 18446744073709551616 b m
  rw [List.take_of_length_le (show b.length ≤ m + 1 by omega)] at this
  exact this
 have b0 := val_nonneg (B := 18446744073709551616) (by decide) (db.take m)
 have b1 := val_lt (B := 18446744073709551616) (by decide) (db.take m)
 rw [List.length_take, Nat.min_eq_left (by omega)] at b1
 have hW := pow_pos (B := 18446744073709551616) (by decide) m
 obtain ⟨Q, hQ⟩ := hdvd
 have htop : (b.getD m 0 + 1) * P ≤ 18446744073709551616 := by
  refine Classical.byContradiction fun hx => ?_
  have h3 : b.getD m 0 * P < Q * P := by rw [Int.mul_comm Q P, hQ]; exact h2
  have h4 : b.getD m 0 < Q := Int.lt_of_mul_lt_mul_right h3 (Int.le_of_lt hP)
  have h5 := Int.mul_le_mul_of_nonneg_right (show b.getD m 0 + 1 ≤ Q by omega) (Int.le_of_lt hP)
  rw [Int.mul_comm Q P, hQ] at h5
  omega
 have hb1 : 1 ≤ b.getD m 0 := by
  refine Classical.byContradiction fun hx => ?_
  have := Int.mul_le_mul_of_nonneg_right (show b.getD m 0 ≤ 0 by omega) (Int.le_of_lt hP)
  omega
 generalize b.getD m 0 = t at *
 have hlow : 18446744073709551616 ^ m ≤ val 18446744073709551616 b := by
  have := Int.mul_le_mul_of_nonneg_right hb1 (Int.le_of_lt hW)
  omega
 have hup : val 18446744073709551616 b * P < 18446744073709551616 ^ (m + 1) := by
  have h3 : val 18446744073709551616 b < (t + 1) * 18446744073709551616 ^ m := by rw [Int.add_mul, Int.one_mul]; omega
  have h4 := Int.mul_lt_mul_of_pos_right h3 hP
  have h5 := Int.mul_le_mul_of_nonneg_right htop (Int.le_of_lt hW)
  have e : (t + 1) * 18446744073709551616 ^ m * P = (t + 1) * P * 18446744073709551616 ^ m := by
   rw [Int.mul_assoc, Int.mul_comm (18446744073709551616 ^ m) P, ← Int.mul_assoc]
  rw [Int.pow_succ, Int.mul_comm (18446744073709551616 ^ m)]
  omega
 have hvt := val_take_of_lt (n := m + 1) dv (by rw [hval]; exact hup)
 refine ⟨hvt.1.trans hval, ?_, Int.mul_le_mul_of_nonneg_right hlow (Int.le_of_lt hP)⟩
 have dvt := dv.take (m + 1)
 have ev : val 18446744073709551616 (v.take (m + 1)) = val 18446744073709551616 ((v.take (m + 1)).take m) + (v.take (m + 1)).getD m 0 * 18446744073709551616 ^ m := by
  have := val_take_getD 18446744073709551616 (v.take (m + 1)) m
  rw [List.take_of_length_le (show (v.take (m + 1)).length ≤ m + 1 by simp; omega)] at this
  exact this
 have v1 := val_lt (B := 18446744073709551616) (by decide) (dvt.take m)
 rw [List.length_take, Nat.min_eq_left (by simp; omega)] at v1
 rw [hvt.1, hval] at ev
 generalize (v.take (m + 1)).getD m 0 = x at *
 refine Classical.byContradiction fun hx => ?_
 have h6 := Int.mul_le_mul_of_nonneg_right (show x + 1 ≤ 9223372036854775808 by omega) (Int.le_of_lt hW)
 rw [Int.add_mul, Int.one_mul] at h6
 have h7 : t * 18446744073709551616 ^ m ≤ val 18446744073709551616 b := by omega
 have h8 := Int.mul_le_mul_of_nonneg_right h7 (Int.le_of_lt hP)
 have h9 := Int.mul_le_mul_of_nonneg_right h1 (Int.le_of_lt hW)
 have e : t * 18446744073709551616 ^ m * P = t * P * 18446744073709551616 ^ m := by
  rw [Int.mul_assoc, Int.mul_comm (18446744073709551616 ^ m) P, ← Int.mul_assoc]
 omega
theorem rep_word {v : Int} (h : 0 ≤ v ∧ v < 18446744073709551616) : ∃ r, Ev (fun k => whole_trimmed.f k [v]) r ∧ Rep 18446744073709551616 v r := by
 obtain ⟨r, hr, h1, h2, h3⟩ := whole_trimmed_ev (B := 18446744073709551616) (l := [v]) (by simp) (by rw [Dig.cons]; exact ⟨h, Dig.nil⟩)
 exact ⟨r, hr, h1, h2, by rw [h3]; simp [val]⟩
theorem quo_ev {A D : Int} {a b : List Int} (ha : Rep 18446744073709551616 A a) (hb : Rep 18446744073709551616 D b) (hD : 0 < D) (la : a.length ≤ 8388600) (lb : b.length ≤ 8388600) :
  ∃ q r, Ev (fun k => whole_amount_quo.f k a b) (q, r) ∧ Rep 18446744073709551616 (A / D) q ∧ Rep 18446744073709551616 (A % D) r := by
 have hA := ha.nonneg (by decide)
 obtain ⟨K1, h1⟩ := whole_amount_cmp_ev a b (by omega) (by omega) ha.dig hb.dig ha.top hb.top
 rw [ha.val, hb.val] at h1
 by_cases hc : A < D
 ·refine ⟨[], a, ⟨K1, fun k hk => ?_⟩, ⟨Dig.nil, trivial, ?_⟩, ?_⟩
  ·have e1 : whole_amount_cmp.f k a b = _ := h1 k hk
   show whole_amount_quo.f k a b = _
   rw [whole_amount_quo.f, e1, Option.bind_some, sg_neg (by omega), if_pos (by decide)]
  ·rw [Int.ediv_eq_zero_of_lt hA hc]; rfl
  rw [Int.emod_eq_of_lt hA hc]; exact ha
 have hsg : ¬ sg (A - D) < 0 := by unfold sg; split <;> (try split) <;> omega
 have hbpos := (hb.pos_iff (by decide)).2 hD
 by_cases h1b : b.length = 1
 ·obtain ⟨x, rfl⟩ := List.length_eq_one_iff.1 h1b
  have hx : x = D := by have := hb.val; simpa [val] using this
  have dx := hb.dig.get 0 (by simp)
  have dx' : 0 ≤ x ∧ x < 18446744073709551616 := dx
  obtain ⟨q, ⟨K2, h2⟩, hq⟩ := byLimb_ev a x (by omega) (by omega) ha.dig
  rw [ha.val, hx] at hq
  have hm0 := Int.emod_nonneg A (show x ≠ 0 by omega)
  have hm1 := Int.emod_lt_of_pos A (show 0 < x by omega)
  obtain ⟨r, ⟨K3, h3⟩, hr⟩ := rep_word (v := A % x) ⟨hm0, by omega⟩
  rw [hx] at hr
  refine ⟨q, r, ⟨K1 + K2 + K3, fun k hk => ?_⟩, hq, hr⟩
  have e1 : whole_amount_cmp.f k a [x] = _ := h1 k (by omega)
  have e2 : whole_amount_byLimb.f k a x = _ := h2 k (by omega)
  have e3 : whole_trimmed.f k [A % x] = _ := h3 k (by omega)
  rw [ha.val] at e2
  show whole_amount_quo.f k a [x] = _
  rw [whole_amount_quo.f, e1, Option.bind_some, if_neg hsg, if_pos (by rfl), show rd [x] 0 = x from rfl, e2, Option.bind_some, e3, Option.bind_some]
 have hlen := len_of_le (by decide) ha.dig hb.dig hb.top (by rw [ha.val, hb.val]; omega)
 have hn2 : 2 ≤ b.length := by omega
 have gb := getD_dig (by decide) hb.dig (b.length - 1)
 have htop : b.getD (b.length - 1) 0 ≠ 0 := by
  have hne : b ≠ [] := by intro e; rw [e] at hn2; simp at hn2
  have := (Top_iff b).1 hb.top hne
  rw [List.getLast_eq_getElem] at this
  rw [List.getD_eq_getElem?_getD, List.getElem?_eq_getElem (by omega), Option.getD_some]
  exact this
 obtain ⟨s, P, Q, hs, hSh, hp1, hp2⟩ := clz (x := b.getD (b.length - 1) 0) (by omega)
 have hP0 := hSh.P0
 obtain ⟨v, ⟨K2, h2⟩, hvl, dv, hvv⟩ := up_ev hSh b lb hb.dig
 obtain ⟨u, ⟨K3, h3⟩, hul, du, huv⟩ := up_ev hSh a la ha.dig
 obtain ⟨n1, n2, n3⟩ := normal rfl hn2 hvl hb.dig dv hP0 ⟨Q, hSh.PQ⟩ hp1 hp2 hvv
 rw [hb.val] at n1 n3
 rw [ha.val] at huv
 have hvtl : (v.take b.length).length = b.length := by rw [List.length_take]; omega
 have hAl := ha.lt (by decide)
 have htopu : val 18446744073709551616 (u.drop (a.length - b.length + 1)) < val 18446744073709551616 (v.take b.length) := by
  rw [n1]
  have e := val_split 18446744073709551616 u (a.length - b.length + 1) (by omega)
  have t0 := val_nonneg (B := 18446744073709551616) (by decide) (du.take (a.length - b.length + 1))
  have hW := pow_pos (B := 18446744073709551616) (by decide) (a.length - b.length + 1)
  refine Classical.byContradiction fun hx => ?_
  have h5 := Int.mul_le_mul_of_nonneg_left (show 18446744073709551616 ^ (b.length - 1) * P ≤ val 18446744073709551616 (u.drop (a.length - b.length + 1)) by omega) (Int.le_of_lt hW)
  rw [← Int.mul_assoc, ← Int.pow_add, show a.length - b.length + 1 + (b.length - 1) = a.length from by omega] at h5
  have h6 := Int.mul_lt_mul_of_pos_right hAl hP0
  omega
 have hq0 : ∀ t, (List.replicate (a.length - b.length + 1) (0 : Int)).getD t 0 = 0 := fun t => by
  simp [List.getD_eq_getElem?_getD, List.getElem?_replicate]; split <;> rfl
 obtain ⟨u2, q2, ⟨K4, h4⟩, w1, w2, w3, w4, w5, w6⟩ := go_run (v.take b.length) b.length hvtl hn2 lb (dv.take _) n2 (a.length - b.length + 1) u (List.replicate (a.length - b.length + 1) 0) (by omega) du (by omega) htopu (Dig.rep (by decide) _) (by simp) (fun t _ => hq0 t)
 rw [val_replicate, Int.zero_mul, Int.add_zero, huv, n1] at w6
 rw [n1] at w5
 have hu0 := val_nonneg (B := 18446744073709551616) (by decide) w2
 obtain ⟨d1, d2⟩ := scale_div (X := A) (a := D) (P := P) (G := val 18446744073709551616 q2) (r := val 18446744073709551616 u2) hP0 hD (by omega) hu0 w5
 obtain ⟨q, ⟨K5, h5⟩, q1, q3, q4⟩ := whole_trimmed_ev (B := 18446744073709551616) (l := q2) (by rw [w4]; simp; omega) w3
 have hvlt := val_lt (B := 18446744073709551616) (by decide) (dv.take b.length)
 rw [hvtl, n1] at hvlt
 have hut := val_take_of_lt (n := b.length) w2 (by omega)
 obtain ⟨r0, ⟨K6, h6⟩, r1, r3, r4⟩ := whole_trimmed_ev (B := 18446744073709551616) (l := u2.take b.length) (by rw [List.length_take]; omega) (w2.take _)
 have hr0l : r0.length ≤ 8388608 := by
  have := rep_len (by decide) (Rep.mk r1 r3 (r4.trans hut.1)) (m := b.length) (by omega)
  omega
 obtain ⟨r, ⟨K7, h7⟩, hr⟩ := down_ev hSh r0 hr0l r1
 rw [r4, hut.1, ← d2] at hr
 refine ⟨q, r, ⟨K1 + K2 + K3 + K4 + K5 + K6 + K7, fun k hk => ?_⟩, ⟨q1, q3, by rw [q4, d1]⟩, hr⟩
 have e1 : whole_amount_cmp.f k a b = _ := h1 k (by omega)
 have e2 : whole_amount_up.f k b s = _ := h2 k (by omega)
 have e3 : whole_amount_up.f k a s = _ := h3 k (by omega)
 have e4 : quo_go k u (v.take b.length) (List.replicate (a.length - b.length + 1) 0) (((a.length - b.length + 1 : Nat) : Int) - 1) = _ := h4 k (by omega)
 have e5 : whole_trimmed.f k q2 = _ := h5 k (by omega)
 have e6 : whole_trimmed.f k (u2.take b.length) = _ := h6 k (by omega)
 have e7 : whole_amount_down.f k r0 s = _ := h7 k (by omega)
 have hs0 := hSh.s0
 have i1 : (a.length : Int) - (b.length : Int) = ((a.length - b.length + 1 : Nat) : Int) - 1 := by omega
 have i2 : (b.length : Int) - 1 = ((b.length - 1 : Nat) : Int) := by omega
 show whole_amount_quo.f k a b = _
 rw [whole_amount_quo.f, e1, Option.bind_some, if_neg hsg, if_neg h1b, if_pos (by omega), i2, rd_getD, hs, Option.bind_some, if_pos (by omega), e2, Option.bind_some, e3, Option.bind_some, if_pos (by omega), i1, e4, Option.bind_some, e5, Option.bind_some, e6, Option.bind_some, e7, Option.bind_some]
def qn (n m : Int) : Int := if (decide (n < 0) != decide (m < 0)) = true then -((n.natAbs : Int) / (m.natAbs : Int)) else (n.natAbs : Int) / (m.natAbs : Int)
def rn (n m : Int) : Int := if decide (n < 0) = true then -((n.natAbs : Int) % (m.natAbs : Int)) else (n.natAbs : Int) % (m.natAbs : Int)
theorem cut_num {n m : Int} {s t : Bool} {a b : List Int} (ha : Num 18446744073709551616 n s a) (hb : Num 18446744073709551616 m t b) (hm : m ≠ 0) (la : a.length ≤ 8388600) (lb : b.length ≤ 8388600) :
  ∃ u q v r, Ev (fun k => whole_number_cut.f k a s b t) (q, u, r, v) ∧ Num 18446744073709551616 (qn n m) u q ∧ Num 18446744073709551616 (rn n m) v r := by
 obtain ⟨q, r, ⟨K, hK⟩, hq, hr⟩ := quo_ev ha.rep hb.rep (by omega) la lb
 refine ⟨_, q, _, r, ⟨K, fun k hk => ?_⟩, Num.of_rep' (by decide) hq (s != t) (by rw [ha.sign, hb.sign]; rfl), Num.of_rep' (by decide) hr s (by rw [ha.sign]; rfl)⟩
 have e : whole_amount_quo.f k a b = _ := hK k hk
 show whole_number_cut.f k a s b t = _
 rw [whole_number_cut.f, e, Option.bind_some, signed_eq, Option.bind_some, signed_eq, Option.bind_some]
theorem long_eq (l : List Int) (s : Bool) : whole_number_long.f l s = some (decide ((l.length : Int) > 4096)) := rfl
theorem null_eq (l : List Int) : whole_amount_null.f l = some (decide (l = [])) := by
 rw [whole_amount_null.f]
 congr 1
 cases l <;> simp <;> omega
theorem num_nil {B n : Int} (hB : 0 < B) {s : Bool} {a : List Int} (h : Num B n s a) : a = [] ↔ n = 0 := by
 rw [h.rep.nil_iff hB]; omega
theorem one_num : whole_one.f = some ([1], false) ∧ Num 18446744073709551616 1 false [1] :=
 ⟨rfl, ⟨⟨by rw [Dig.cons]; exact ⟨by decide, Dig.nil⟩, by simp [Top], by simp [val]⟩, rfl⟩⟩
theorem qn_abs (n m : Int) : ((qn n m).natAbs : Int) = (n.natAbs : Int) / (m.natAbs : Int) := by
 have : 0 ≤ (n.natAbs : Int) / (m.natAbs : Int) := Int.ediv_nonneg (by omega) (by omega)
 unfold qn; split <;> omega
theorem rn_abs (n : Int) {m : Int} (hm : m ≠ 0) : ((rn n m).natAbs : Int) = (n.natAbs : Int) % (m.natAbs : Int) := by
 have : 0 ≤ (n.natAbs : Int) % (m.natAbs : Int) := Int.emod_nonneg _ (by omega)
 unfold rn; split <;> omega
theorem qn_le (n m : Int) : ((qn n m).natAbs : Int) ≤ n.natAbs := by
 rw [qn_abs]; exact Int.ediv_le_self _ (by omega)
theorem rn_lt (n : Int) {m : Int} (hm : m ≠ 0) : ((rn n m).natAbs : Int) < m.natAbs := by
 rw [rn_abs n hm]; exact Int.emod_lt_of_pos _ (by omega)
theorem len_small {B n k : Int} (hB : 0 < B) {s t : Bool} {a q : List Int} (ha : Num B n s a) (hq : Num B k t q) (h : (k.natAbs : Int) ≤ n.natAbs) : q.length ≤ a.length :=
 rep_len hB hq.rep (Int.lt_of_le_of_lt h (ha.rep.lt hB))
theorem inv_step (V c c' lo2 o X x y P R W B : Int) (hs : c' * B + lo2 = x * y + o + c) (hv : V + c * (P * R) = X + x * P * W) : (V + (lo2 - o) * (P * R)) + c' * (P * R * B) = X + x * P * (W + y * R) := by
 have e : c' * B = x * y + o + c - lo2 := by omega
 have : c' * (P * R * B) = (c' * B) * (P * R) := by grind
 rw [this, e]
 grind
theorem inv_exit (V c X x P R W : Int) (hv : V + c * (P * R) = X + x * P * W) : V + (c - 0) * (P * R) = X + x * P * W := by rw [Int.sub_zero]; exact hv
theorem l1_step (k : Nat) (b out a : List Int) (i j x c n1 n2 p hi lo t1 c1 lo2 c2 : Int) (h1 : j < n2) (h2 : 0 ≤ j) (h3 : j < (b.length : Int)) (h4 : bits_Mul64.f x (rd b j) = some (hi, lo)) (h5 : wrap64 (i + j) = p) (h6 : 0 ≤ p) (h7 : p < (out.length : Int)) (h8 : bits_Add64.f lo (rd out p) 0 = some (t1, c1)) (h9 : bits_Add64.f t1 c 0 = some (lo2, c2)) :
  whole_amount_times.l1 (k + 1) b out i x c a n1 i b n2 j = whole_amount_times.l1 k b (out.set p.toNat lo2) i x (IntKind.u64.wrap (IntKind.u64.wrap (hi + c1) + c2)) a n1 i b n2 (wrap64 (j + 1)) := by
 rw [whole_amount_times.l1, if_pos h1, if_pos h2, if_pos h3, h4, Option.bind_some, h5, if_pos h6, if_pos h7, h8, Option.bind_some, h9, Option.bind_some]
theorem times_in (a b : List Int) (ha : a.length ≤ 1048576) (hb : b.length ≤ 1048576) (da : Dig 18446744073709551616 a) (db : Dig 18446744073709551616 b) (i : Nat) (hi : i < a.length) (X : Int) (Q : List Int → Prop)
  (cont : ∀ out, out.length = a.length + b.length → Dig 18446744073709551616 out → val 18446744073709551616 out = X + a[i] * 18446744073709551616 ^ i * val 18446744073709551616 b → (∀ t, i + 1 + b.length ≤ t → out.getD t 0 = 0) → ∃ r, Ev (fun k => whole_amount_times.l0 k b out a (a.length : Int) ((i : Int) + 1)) r ∧ Q r) :
  ∀ (m j : Nat) (out : List Int) (c : Int), j + m = b.length → out.length = a.length + b.length → Dig 18446744073709551616 out → 0 ≤ c ∧ c < 18446744073709551616 → val 18446744073709551616 out + c * 18446744073709551616 ^ (i + j) = X + a[i] * 18446744073709551616 ^ i * val 18446744073709551616 (b.take j) → (∀ t, i + b.length ≤ t → out.getD t 0 = 0) →
  ∃ r, Ev (fun k => whole_amount_times.l1 k b out (i : Int) a[i] c a (a.length : Int) (i : Int) b (b.length : Int) (j : Int)) r ∧ Q r := by
 intro m
 induction m with
 | zero =>
  intro j out c hj ho hd hc hv hz
  have hj' : j = b.length := by omega
  subst hj'
  have h0 : out[i + b.length]'(by omega) = 0 := by
   have := hz (i + b.length) (by omega)
   rwa [List.getD_eq_getElem?_getD, List.getElem?_eq_getElem (by omega), Option.getD_some] at this
  obtain ⟨r, ⟨K, hr⟩, hq⟩ := cont (out.set (i + b.length) c) (by simpa using ho) (hd.set _ hc)
   (by
    rw [List.take_length, Int.pow_add] at hv
    rw [val_set _ _ _ _ (by omega), h0, Int.pow_add]
    exact inv_exit _ _ _ _ _ _ _ hv)
   (fun t ht => by rw [getD_set_ne _ _ _ _ (by omega)]; exact hz t (by omega))
  refine ⟨r, ⟨K + 1, fun k hk => ?_⟩, hq⟩
  obtain ⟨k, rfl⟩ : ∃ j, k = j + 1 := ⟨k - 1, by omega⟩
  simp only [whole_amount_times.l1]
  rw [if_neg (by omega), w64 _ (by omega), if_pos (by omega), if_pos (by omega), w64 _ (by omega)]
  have := hr k (by omega)
  rw [show i + b.length = ((i : Int) + (b.length : Int)).toNat from by omega] at this
  with_reducible exact this
 | succ m ih =>
  intro j out c hj ho hd hc hv hz
  have hx := da.get i hi
  have hy := db.get j (by omega)
  have hp : i + j < out.length := by omega
  have hoo := hd.get (i + j) hp
  obtain ⟨h1, lo, t1, c1, lo2, c2, c', hm, ha1, ha2, hw, hlo, hcc, hs⟩ := mstep a[i] b[j] out[i + j] c hx hy hoo hc
  obtain ⟨r, ⟨K, hr⟩, hq⟩ := ih (j + 1) (out.set (i + j) lo2) c' (by omega) (by simpa using ho) (hd.set _ hlo) hcc
   (by
    rw [Int.pow_add] at hv
    rw [val_set _ _ _ _ hp, val_take_succ _ b j (by omega), show i + (j + 1) = (i + j) + 1 from by omega, Int.pow_succ, Int.pow_add]
    exact inv_step _ _ _ _ _ _ _ _ _ _ _ _ hs hv)
   (fun t ht => by rw [getD_set_ne _ _ _ _ (by omega)]; exact hz t ht)
  refine ⟨r, ⟨K + 1, fun k hk => ?_⟩, hq⟩
  obtain ⟨k, rfl⟩ : ∃ j, k = j + 1 := ⟨k - 1, by omega⟩
  have := hr k (by omega)
  show whole_amount_times.l1 (k + 1) b out (i : Int) a[i] c a (a.length : Int) (i : Int) b (b.length : Int) (j : Int) = some r
  rw [l1_step k b out a i j a[i] c a.length b.length (i + j : Nat) h1 lo t1 c1 lo2 c2 (by omega) (by omega) (by omega) (by rw [rd_nat b j (by omega)]; exact hm) (by rw [w64 _ (by omega)]; omega) (by omega) (by omega) (by rw [rd_nat out (i + j) hp]; exact ha1) ha2, hw, w64 _ (by omega), Int.toNat_natCast]
  rw [show ((j + 1 : Nat) : Int) = (j : Int) + 1 from by omega] at this
  with_reducible exact this
theorem times_out (a b : List Int) (ha : a.length ≤ 1048576) (hb : b.length ≤ 1048576) (da : Dig 18446744073709551616 a) (db : Dig 18446744073709551616 b) : ∀ (n i : Nat) (out : List Int), i + n = a.length → out.length = a.length + b.length → Dig 18446744073709551616 out → val 18446744073709551616 out = val 18446744073709551616 (a.take i) * val 18446744073709551616 b → (∀ t, i + b.length ≤ t → out.getD t 0 = 0) →
  ∃ r, Ev (fun k => whole_amount_times.l0 k b out a (a.length : Int) (i : Int)) r ∧ (Dig 18446744073709551616 r ∧ Top r ∧ val 18446744073709551616 r = val 18446744073709551616 a * val 18446744073709551616 b) := by
 intro n
 induction n with
 | zero =>
  intro i out hi ho hd hv hz
  obtain ⟨r, ⟨K, hr⟩, h1, h2, h3⟩ := whole_trimmed_ev (B := 18446744073709551616) (l := out) (by omega) hd
  refine ⟨r, ⟨K + 1, fun k hk => ?_⟩, h1, h2, by rw [h3, hv, show i = a.length from by omega, List.take_length]⟩
  obtain ⟨k, rfl⟩ : ∃ j, k = j + 1 := ⟨k - 1, by omega⟩
  show whole_amount_times.l0 (k + 1) b out a (a.length : Int) (i : Int) = some r
  have hk' : whole_trimmed.f k out = some r := hr k (by omega)
  rw [whole_amount_times.l0, if_neg (by omega), hk', Option.bind_some]
 | succ n ih =>
  intro i out hi ho hd hv hz
  have hil : i < a.length := by omega
  obtain ⟨r, ⟨K, hr⟩, hq⟩ := times_in a b ha hb da db i hil (val 18446744073709551616 (a.take i) * val 18446744073709551616 b) _ (fun out' h1 h2 h3 h4 => by
    have := ih (i + 1) out' (by omega) h1 h2 (by rw [h3, val_take_succ _ a i hil, Int.add_mul]) h4
    rwa [show ((i + 1 : Nat) : Int) = (i : Int) + 1 from by omega] at this) b.length 0 out 0 (by omega) ho hd ⟨by omega, by omega⟩ (by rw [hv]; simp [val]) hz
  refine ⟨r, ⟨K + 1, fun k hk => ?_⟩, hq⟩
  obtain ⟨k, rfl⟩ : ∃ j, k = j + 1 := ⟨k - 1, by omega⟩
  show whole_amount_times.l0 (k + 1) b out a (a.length : Int) (i : Int) = some r
  have := hr k (by omega)
  rw [show ((0 : Nat) : Int) = 0 from rfl] at this
  rw [whole_amount_times.l0, if_pos (by omega), if_pos (by omega), if_pos (by omega), rd_nat a i hil]
  with_reducible exact this
theorem times_ev (a b : List Int) (ha : a.length ≤ 1048576) (hb : b.length ≤ 1048576) (da : Dig 18446744073709551616 a) (db : Dig 18446744073709551616 b) :
  ∃ r, Ev (fun k => whole_amount_times.f k a b) r ∧ Dig 18446744073709551616 r ∧ Top r ∧ val 18446744073709551616 r = val 18446744073709551616 a * val 18446744073709551616 b := by
 obtain ⟨r, ⟨K, hr⟩, hq⟩ := times_out a b ha hb da db a.length 0 (List.replicate (a.length + b.length) 0) (by omega) (by simp) (Dig.rep (by decide) _) (by rw [val_replicate]; simp [val]) (fun t _ => by simp [List.getD_eq_getElem?_getD, List.getElem?_replicate]; split <;> rfl)
 refine ⟨r, ⟨K, fun k hk => ?_⟩, hq⟩
 show whole_amount_times.f k a b = some r
 have hw : wrap64 ((a.length : Int) + (b.length : Int)) = ((a.length + b.length : Nat) : Int) := by rw [w64 _ (by omega)]; omega
 rw [whole_amount_times.f, hw, Int.toNat_natCast, if_pos (by omega), if_pos (by omega)]
 exact hr k hk
theorem times_num {n m : Int} {s t : Bool} {a b : List Int} (ha : Num 18446744073709551616 n s a) (hb : Num 18446744073709551616 m t b) (la : a.length ≤ 1048576) (lb : b.length ≤ 1048576) :
  ∃ u r, Ev (fun k => whole_number_times.f k a s b t) (r, u) ∧ Num 18446744073709551616 (n * m) u r := by
 obtain ⟨r, ⟨K, hr⟩, h1, h2, h3⟩ := times_ev a b la lb ha.rep.dig hb.rep.dig
 rw [ha.rep.val, hb.rep.val] at h3
 have N := Num.of_rep' (by decide) (Rep.mk h1 h2 h3) (s != t) (n := n * m) (by rw [ha.sign, hb.sign]; exact mul_signs n m)
 refine ⟨_, r, ⟨K, fun k hk => ?_⟩, N⟩
 have hk' : whole_amount_times.f k a b = some r := hr k hk
 show whole_number_times.f k a s b t = _
 rw [whole_number_times.f, hk', Option.bind_some, signed_eq, Option.bind_some]
end Go.Proofs.YtikencoikigllaaDoor.PurePRa
namespace Go.Proofs.YtikencoikigllaaDoor.PurePRa
set_option linter.unusedVariables false
set_option linter.unusedSimpArgs false
open Go.RowKit Go.Proofs.YtikencoikigllaaDoorW.PrintWords Go.Proofs.YtikencoikigllaaDoorW.PrintLast Go.Proofs.YtikencoikigllaaDoorW.PrintMore Go.Proofs.YtikencoikigllaaDoor.PRa Go.Proofs.YtikencoikigllaaDoor Go.Proofs.YtikencoikigllaaDoor.Mine Big
def AN (L : Nat) (n : Int) (s : Bool) (l : List Int) : Prop := ∃ a s1, Ev (fun k => whole_of.f k s l) (a, s1) ∧ Num 18446744073709551616 n s1 a ∧ a.length ≤ L
theorem of_num' {n : Int} {s : Bool} {r : List Int} (h : Num 18446744073709551616 n s r) (hl : r.length ≤ 1048576) : Ev (fun k => whole_of.f k s r) (r, s) := by
 obtain ⟨q, hq, _, h1, h2, h3⟩ := of_ev s r hl h.rep.dig
 have e : q = r := h.rep.uniq (by decide) ⟨h1, h2, h3.trans h.rep.val⟩ |>.symm
 subst e
 have e1 := h.sign
 have e2 := h.rep.pos_iff (by decide)
 have es : (s && decide (0 < q.length)) = s := by
  cases s
  ·rfl
  have hn : n < 0 := of_decide_eq_true e1.symm
  have := e2.2 (by omega)
  simp [this]
 rw [es] at hq
 exact hq
theorem AN.of {L : Nat} {n : Int} {s : Bool} {r : List Int} (h : Num 18446744073709551616 n s r) (hl : r.length ≤ L) (hL : L ≤ 1048576) : AN L n s r := ⟨r, s, of_num' h (by omega), h, hl⟩
theorem AN.up {L L' : Nat} {n : Int} {s : Bool} {l : List Int} (h : AN L n s l) (hL : L ≤ L') : AN L' n s l := by
 obtain ⟨a, s1, h1, h2, h3⟩ := h
 exact ⟨a, s1, h1, h2, by omega⟩
theorem told_ok (s : Bool) {l : List Int} (h : l.length ≤ 4096) : whole_number_told.f l s = some (s, l, 0) := by
 simp only [whole_number_told.f, whole_number_long.f, Option.bind_some]
 rw [if_neg (by simp; omega), whole_number_out.f, api_Nat_uint64.f, if_pos (by omega), Option.bind_some, Option.bind_some]
theorem out_ok (s : Bool) {l : List Int} (h : l.length ≤ 1048576) : whole_number_out.f l s = some (s, l) := by
 rw [whole_number_out.f, api_Nat_uint64.f, if_pos (by omega), Option.bind_some]
section
variable {L L' : Nat} {n m : Int} {s t : Bool} {l p : List Int}
theorem AN.add (h : AN L n s l) (g : AN L' m t p) (hL : L ≤ 4000) (hL' : L' ≤ 4000) : ∃ u q, Ev (fun k => whole_Add.f k s l t p) (u, q, 0) ∧ Num 18446744073709551616 (n + m) u q ∧ q.length ≤ max L L' + 1 := by
 obtain ⟨a, s1, ⟨K1, e1⟩, N1, l1⟩ := h
 obtain ⟨b, s2, ⟨K2, e2⟩, N2, l2⟩ := g
 obtain ⟨u, r, ⟨K3, e3⟩, N3⟩ := plus_num N1 N2 (by omega) (by omega)
 have hr := num_len (by decide) N1 N2 N3 (by omega) (L := max L L') (by omega) (by omega)
 refine ⟨u, r, ⟨K1 + K2 + K3, fun k hk => ?_⟩, N3, hr⟩
 have g1 : whole_of.f k s l = _ := e1 k (by omega)
 have g2 : whole_of.f k t p = _ := e2 k (by omega)
 have g3 : whole_number_plus.f k a s1 b s2 = _ := e3 k (by omega)
 show whole_Add.f k s l t p = _
 rw [whole_Add.f, g1, Option.bind_some, g2, Option.bind_some, g3, Option.bind_some, told_ok u (show r.length ≤ 4096 by omega), Option.bind_some]
theorem AN.sub (h : AN L n s l) (g : AN L' m t p) (hL : L ≤ 4000) (hL' : L' ≤ 4000) : ∃ u q, Ev (fun k => whole_Sub.f k s l t p) (u, q, 0) ∧ Num 18446744073709551616 (n - m) u q ∧ q.length ≤ max L L' + 1 := by
 obtain ⟨a, s1, ⟨K1, e1⟩, N1, l1⟩ := h
 obtain ⟨b, s2, ⟨K2, e2⟩, N2, l2⟩ := g
 obtain ⟨u, r, ⟨K3, e3⟩, N3⟩ := minus_num N1 N2 (by omega) (by omega)
 have hr := num_len (by decide) N1 N2 N3 (by omega) (L := max L L') (by omega) (by omega)
 refine ⟨u, r, ⟨K1 + K2 + K3, fun k hk => ?_⟩, N3, hr⟩
 have g1 : whole_of.f k s l = _ := e1 k (by omega)
 have g2 : whole_of.f k t p = _ := e2 k (by omega)
 have g3 : whole_number_minus.f k a s1 b s2 = _ := e3 k (by omega)
 show whole_Sub.f k s l t p = _
 rw [whole_Sub.f, g1, Option.bind_some, g2, Option.bind_some, g3, Option.bind_some, told_ok u (show r.length ≤ 4096 by omega), Option.bind_some]
theorem AN.mul (h : AN L n s l) (g : AN L' m t p) (hL : L + L' ≤ 4096) : ∃ u q, Ev (fun k => whole_Mul.f k s l t p) (u, q, 0) ∧ Num 18446744073709551616 (n * m) u q ∧ q.length ≤ L + L' := by
 obtain ⟨a, s1, ⟨K1, e1⟩, N1, l1⟩ := h
 obtain ⟨b, s2, ⟨K2, e2⟩, N2, l2⟩ := g
 obtain ⟨u, r, ⟨K3, e3⟩, N3⟩ := times_num N1 N2 (by omega) (by omega)
 have hr : r.length ≤ a.length + b.length := by
  refine rep_len (by decide) N3.rep ?_
  rw [Int.natAbs_mul, Int.pow_add]
  have g2 := N1.rep.lt (by decide)
  have g3 := N2.rep.lt (by decide)
  have p1 := pow_pos (B := 18446744073709551616) (by decide) a.length
  have h1 := Int.mul_le_mul_of_nonneg_left (show (m.natAbs : Int) ≤ 18446744073709551616 ^ b.length by omega) (show (0 : Int) ≤ (n.natAbs : Int) by omega)
  have h2 := Int.mul_lt_mul_of_pos_right g2 (pow_pos (B := 18446744073709551616) (by decide) b.length)
  have e : ((n.natAbs * m.natAbs : Nat) : Int) = (n.natAbs : Int) * (m.natAbs : Int) := Int.natCast_mul _ _
  omega
 refine ⟨u, r, ⟨K1 + K2 + K3, fun k hk => ?_⟩, N3, by omega⟩
 have g1 : whole_of.f k s l = _ := e1 k (by omega)
 have g2 : whole_of.f k t p = _ := e2 k (by omega)
 have g3 : whole_number_times.f k a s1 b s2 = _ := e3 k (by omega)
 show whole_Mul.f k s l t p = _
 rw [whole_Mul.f, g1, Option.bind_some, g2, Option.bind_some, g3, Option.bind_some, told_ok u (show r.length ≤ 4096 by omega), Option.bind_some]
theorem AN.cmp (h : AN L n s l) (g : AN L' m t p) (hL : L ≤ 1048576) (hL' : L' ≤ 1048576) : Ev (fun k => whole_Cmp.f k s l t p) (sg (n - m)) := by
 obtain ⟨a, s1, ⟨K1, e1⟩, N1, l1⟩ := h
 obtain ⟨b, s2, ⟨K2, e2⟩, N2, l2⟩ := g
 obtain ⟨K3, e3⟩ := cmp_num N1 N2 (by omega) (by omega)
 refine ⟨K1 + K2 + K3, fun k hk => ?_⟩
 have g1 : whole_of.f k s l = _ := e1 k (by omega)
 have g2 : whole_of.f k t p = _ := e2 k (by omega)
 have g3 : whole_number_cmp.f k a s1 b s2 = _ := e3 k (by omega)
 show whole_Cmp.f k s l t p = _
 rw [whole_Cmp.f, g1, Option.bind_some, g2, Option.bind_some, g3, Option.bind_some]
theorem nil_num' (B : Int) : Num B 0 false [] := ⟨⟨Dig.nil, trivial, rfl⟩, rfl⟩
theorem AN.sign (h : AN L n s l) (hL : L ≤ 1048576) : Ev (fun k => whole_Sign.f k s l) (sg n) := by
 obtain ⟨a, s1, ⟨K1, e1⟩, N1, l1⟩ := h
 obtain ⟨K3, e3⟩ := cmp_num N1 (nil_num' _) (by omega) (by simp)
 refine ⟨K1 + K3, fun k hk => ?_⟩
 have g1 : whole_of.f k s l = _ := e1 k (by omega)
 have g3 : whole_number_cmp.f k a s1 [] false = _ := e3 k (by omega)
 show whole_Sign.f k s l = _
 rw [whole_Sign.f, g1, Option.bind_some, g3, Option.bind_some, Int.sub_zero]
theorem pair_ok (u v : Bool) {q r : List Int} (hq : q.length ≤ 4096) (hr : r.length ≤ 4096) : Ev (fun k => whole_pair.f k q u r v) (u, q, v, r, 0) := by
 refine ⟨1, fun k hk => ?_⟩
 obtain ⟨k, rfl⟩ : ∃ j, k = j + 1 := ⟨k - 1, by omega⟩
 show whole_pair.f (k + 1) q u r v = _
 rw [whole_pair.f, long_eq, Option.bind_some, if_neg (by simp; omega), long_eq, Option.bind_some, whole_pair.j0, if_neg (by simp; omega), out_ok _ (show q.length ≤ 1048576 by omega), Option.bind_some, out_ok _ (show r.length ≤ 1048576 by omega), Option.bind_some]
theorem AN.quo (h : AN L n s l) (g : AN L' m t p) (hm : m ≠ 0) (hL : L ≤ 4000) (hL' : L' ≤ 4000) : ∃ u q v r, Ev (fun k => whole_Quo.f k s l t p) (u, q, v, r, 0) ∧ Num 18446744073709551616 (qn n m) u q ∧ Num 18446744073709551616 (rn n m) v r ∧ q.length ≤ L ∧ r.length ≤ L' := by
 obtain ⟨a, s1, ⟨K1, e1⟩, N1, l1⟩ := h
 obtain ⟨b, s2, ⟨K2, e2⟩, N2, l2⟩ := g
 obtain ⟨u, q, v, r, ⟨K3, e3⟩, N3, N4⟩ := cut_num N1 N2 hm (by omega) (by omega)
 have hne : ¬ decide (b = []) = true := by simpa using fun h => hm ((num_nil (by decide) N2).1 h)
 have lq := len_small (by decide) N1 N3 (qn_le n m)
 have lr := len_small (by decide) N2 N4 (Int.le_of_lt (rn_lt n hm))
 obtain ⟨K4, e4⟩ := pair_ok u v (q := q) (r := r) (by omega) (by omega)
 refine ⟨u, q, v, r, ⟨K1 + K2 + K3 + K4, fun k hk => ?_⟩, N3, N4, by omega, by omega⟩
 have g1 : whole_of.f k s l = _ := e1 k (by omega)
 have g2 : whole_of.f k t p = _ := e2 k (by omega)
 have g3 : whole_number_cut.f k a s1 b s2 = _ := e3 k (by omega)
 have g4 : whole_pair.f k q u r v = _ := e4 k (by omega)
 show whole_Quo.f k s l t p = _
 rw [whole_Quo.f, g2, Option.bind_some, null_eq, Option.bind_some, if_neg hne, g1, Option.bind_some, g3, Option.bind_some, g4, Option.bind_some]
theorem AN.one : ∃ v q, Ev (fun k => whole_Of.f k 1) (v, q) ∧ Num 18446744073709551616 1 v q ∧ q.length ≤ 1 := by
 have e : whole_Of.f 5 1 = some (false, [1]) := by kernel_rfl
 exact ⟨false, [1], Ev.of (fun k => whole_Of.mono 1 k) (k := 5) e, one_num.2, by simp⟩
theorem AN.zero : ∃ v q, Ev (fun k => whole_Of.f k 0) (v, q) ∧ Num 18446744073709551616 0 v q ∧ q.length ≤ 1 := by
 have e : whole_Of.f 5 0 = some (false, []) := by kernel_rfl
 exact ⟨false, [], Ev.of (fun k => whole_Of.mono 0 k) (k := 5) e, nil_num' _, by simp⟩
end
theorem qr_eq (n : Int) {m : Int} (hm : m ≠ 0) : qn n m * m + rn n m = n := by
 have h1 := Int.mul_ediv_add_emod (n.natAbs : Int) (m.natAbs : Int)
 unfold qn rn
 generalize (n.natAbs : Int) / (m.natAbs : Int) = Q at *
 generalize (n.natAbs : Int) % (m.natAbs : Int) = R at *
 generalize hM : (m.natAbs : Int) = M at *
 generalize hA : (n.natAbs : Int) = A at *
 rcases Int.lt_or_le n 0 with h | h <;> rcases Int.lt_or_le m 0 with g | g
 ·rw [decide_eq_true h, decide_eq_true g, if_neg (by decide), if_pos rfl, show n = -A from by omega, show m = -M from by omega, Int.mul_neg, Int.mul_comm Q M]; omega
 ·rw [decide_eq_true h, decide_eq_false (Int.not_lt.2 g), if_pos (by decide), if_pos rfl, show n = -A from by omega, show m = M from by omega, Int.neg_mul, Int.mul_comm Q M]; omega
 ·rw [decide_eq_false (Int.not_lt.2 h), decide_eq_true g, if_pos (by decide), if_neg (by decide), show n = A from by omega, show m = -M from by omega, Int.neg_mul_neg, Int.mul_comm Q M]; omega
 rw [decide_eq_false (Int.not_lt.2 h), decide_eq_false (Int.not_lt.2 g), if_neg (by decide), if_neg (by decide), show n = A from by omega, show m = M from by omega, Int.mul_comm Q M]; omega
theorem rn_pos (n : Int) {m : Int} (hm : m ≠ 0) : (0 ≤ n → 0 ≤ rn n m) ∧ (n ≤ 0 → rn n m ≤ 0) := by
 have h2 : 0 ≤ (n.natAbs : Int) % (m.natAbs : Int) := Int.emod_nonneg _ (by omega)
 unfold rn
 constructor
 ·intro h
  rw [decide_eq_false (by omega), if_neg (by decide)]; exact h2
 intro h
 rcases Int.lt_or_le n 0 with g | g
 ·rw [decide_eq_true g, if_pos rfl]; omega
 obtain rfl : n = 0 := by omega
 simp
end Go.Proofs.YtikencoikigllaaDoor.PurePRa
namespace Go.Proofs.YtikencoikigllaaDoor.PurePRa
set_option linter.unusedVariables false
set_option linter.unusedSimpArgs false
open Go.RowKit Go.Proofs.YtikencoikigllaaDoorW.PrintWords Go.Proofs.YtikencoikigllaaDoorW.PrintLast Go.Proofs.YtikencoikigllaaDoorW.PrintMore Go.Proofs.YtikencoikigllaaDoor.PRa Go.Proofs.YtikencoikigllaaDoor Go.Proofs.YtikencoikigllaaDoor.Mine Big
theorem Ev.step' {α : Type} {f g : Nat → Option α} {z : α} (K0 : Nat) (h : Ev f z) (e : ∀ k, K0 ≤ k → g (k + 1) = f k) : Ev g z := by
 obtain ⟨K, hK⟩ := h
 refine ⟨K + K0 + 1, fun k hk => ?_⟩
 obtain ⟨k, rfl⟩ : ∃ j, k = j + 1 := ⟨k - 1, by omega⟩
 rw [e k (by omega)]
 exact hK k (by omega)
theorem rd_T25_nat'' (l : List S25) (n : Nat) (h : n < l.length) : rd_T25 l (n : Int) = l[n] := by
 simp [rd_T25, List.getD_eq_getElem?_getD, List.getElem?_eq_getElem h]
theorem gcd_mod (a b : Nat) : Nat.gcd a b = Nat.gcd b (a % b) := by rw [Nat.gcd_comm, Nat.gcd_rec, Nat.gcd_comm]
theorem Gcd_l2 (l : List S25) (x24 x25 : Int) : ∀ (g u v : Nat) (x6 x9 : List Int), v ≤ g → Rep 18446744073709551616 (u : Int) x6 → Rep 18446744073709551616 (v : Int) x9 → x6.length ≤ 8388600 → x9.length ≤ 8388600 →
  ∃ r, Rep 18446744073709551616 ((Nat.gcd u v : Nat) : Int) r ∧ ∀ z, Ev (fun k => whole_Gcd.l1 k r l x24 (wrap64 (x25 + 1))) z → Ev (fun k => whole_Gcd.l2 k x6 x9 l x24 x25) z := by
 intro g
 induction g with
 | zero =>
  intro u v x6 x9 hv h1 h2 l1 l2
  obtain rfl : v = 0 := by omega
  have e : x9 = [] := (h2.nil_iff (by decide)).2 rfl
  subst e
  refine ⟨x6, by rw [Nat.gcd_zero_right]; exact h1, fun z hz => Ev.step' 0 hz fun k _ => ?_⟩
  rw [whole_Gcd.l2, null_eq, Option.bind_some, if_pos (by simp)]
 | succ g ih =>
  intro u v x6 x9 hv h1 h2 l1 l2
  by_cases h0 : v = 0
  ·subst h0
   have e : x9 = [] := (h2.nil_iff (by decide)).2 rfl
   subst e
   refine ⟨x6, by rw [Nat.gcd_zero_right]; exact h1, fun z hz => Ev.step' 0 hz fun k _ => ?_⟩
   rw [whole_Gcd.l2, null_eq, Option.bind_some, if_pos (by simp)]
  obtain ⟨q, r, ⟨K, hK⟩, hq, hr⟩ := quo_ev h1 h2 (by omega) l1 l2
  have hlt := Nat.mod_lt u (show 0 < v by omega)
  rw [← Int.natCast_emod] at hr
  have lr := rep_len (by decide) hr (Int.lt_of_le_of_lt (show ((u % v : Nat) : Int) ≤ (v : Int) by omega) (h2.lt (by decide)))
  have hne : ¬ decide (x9 = []) = true := by
   have := h2.nil_iff (by decide)
   simp [this, h0]
  obtain ⟨s, hs, hz'⟩ := ih v (u % v) x9 r (by omega) h2 hr l2 (by omega)
  refine ⟨s, by rw [gcd_mod]; exact hs, fun z hz => Ev.step' K (hz' z hz) fun k hk => ?_⟩
  have e : whole_amount_quo.f k x6 x9 = _ := hK k hk
  rw [whole_Gcd.l2, null_eq, Option.bind_some, if_neg hne, e, Option.bind_some]
theorem Gcd_s0 (k : Nat) (l : List S25) (i : Nat) (a1 : List Int) (s1 : Bool) (hi : i < l.length) (hl : l.length ≤ 1048576) (h1 : whole_of.f k l[i].f0 l[i].f1 = some (a1, s1)) (h2 : a1.length ≤ 4096) :
  whole_Gcd.l0 (k + 1) l l (l.length : Int) (i : Int) = whole_Gcd.l0 k l l (l.length : Int) ((i + 1 : Nat) : Int) := by
 have hwr : wrap64 ((i : Int) + 1) = ((i + 1 : Nat) : Int) := by rw [w64 _ (by omega)]; omega
 rw [whole_Gcd.l0, if_pos (by omega), if_pos (by omega), if_pos (by omega), rd_T25_nat'' l i hi, h1, Option.bind_some, long_eq, Option.bind_some, if_neg (by simpa using by omega), hwr]
theorem Gcd_e0 (k : Nat) (l : List S25) : whole_Gcd.l0 (k + 1) l l (l.length : Int) (l.length : Int) = whole_Gcd.l1 k [] l (l.length : Int) 0 := by
 rw [whole_Gcd.l0, if_neg (by omega)]
theorem Gcd_s1 (k : Nat) (l : List S25) (i : Nat) (x6 a1 : List Int) (s1 : Bool) (hi : i < l.length) (hl : l.length ≤ 1048576) (h1 : whole_of.f k l[i].f0 l[i].f1 = some (a1, s1)) :
  whole_Gcd.l1 (k + 1) x6 l (l.length : Int) (i : Int) = whole_Gcd.l2 k x6 a1 l (l.length : Int) (i : Int) := by
 rw [whole_Gcd.l1, if_pos (by omega), if_pos (by omega), if_pos (by omega), rd_T25_nat'' l i hi, h1, Option.bind_some]
theorem Gcd_e1 (k : Nat) (l : List S25) (r : List Int) (hr : r.length ≤ 4096) : whole_Gcd.l1 (k + 1) r l (l.length : Int) (l.length : Int) = some (false, r, 0) := by
 rw [whole_Gcd.l1, if_neg (by omega), signed_eq, Option.bind_some, Bool.false_and, told_ok false hr, Option.bind_some]
theorem Gcd_two {n m : Int} {s t : Bool} {l p : List Int} {L : Nat} (hL : L ≤ 4096) (h : AN L n s l) (g : AN L m t p) : ∃ r, Ev (fun k => whole_Gcd.f k [⟨s, l⟩, ⟨t, p⟩]) (false, r, 0) ∧ Num 18446744073709551616 ((Nat.gcd n.natAbs m.natAbs : Nat) : Int) false r := by
 obtain ⟨a, s1, ⟨K1, e1⟩, N1, l1⟩ := h
 obtain ⟨b, s2, ⟨K2, e2⟩, N2, l2⟩ := g
 obtain ⟨r1, hr1, c1⟩ := Gcd_l2 [⟨s, l⟩, ⟨t, p⟩] 2 0 n.natAbs 0 n.natAbs [] a (Nat.le_refl _) (nil_num' _).rep N1.rep (by simp) (by omega)
 rw [Nat.gcd_zero_left] at hr1
 obtain rfl := hr1.uniq (by decide) N1.rep
 obtain ⟨r, hr, c2⟩ := Gcd_l2 [⟨s, l⟩, ⟨t, p⟩] 2 1 m.natAbs n.natAbs m.natAbs r1 b (Nat.le_refl _) N1.rep N2.rep (by omega) (by omega)
 rw [show wrap64 ((0 : Int) + 1) = 1 from (w64 _ (by omega)).trans rfl] at c1
 rw [show wrap64 ((1 : Int) + 1) = 2 from (w64 _ (by omega)).trans rfl] at c2
 have lr : r.length ≤ 4096 := by
  by_cases hn : n.natAbs = 0
  ·rw [hn, Nat.gcd_zero_left] at hr
   rw [hr.uniq (by decide) N2.rep]; omega
  have h1 := Nat.gcd_le_left m.natAbs (show 0 < n.natAbs by omega)
  have := rep_len (by decide) hr (Int.lt_of_le_of_lt (show _ ≤ (n.natAbs : Int) by omega) (N1.rep.lt (by decide)))
  omega
 have z2 : Ev (fun k => whole_Gcd.l1 k r [⟨s, l⟩, ⟨t, p⟩] 2 2) (false, r, 0) := Ev.step' (f := fun _ => some (false, r, 0)) 0 ⟨0, fun _ _ => rfl⟩ fun k _ => Gcd_e1 k [⟨s, l⟩, ⟨t, p⟩] r lr
 have z0 : Ev (fun k => whole_Gcd.l1 k r1 [⟨s, l⟩, ⟨t, p⟩] 2 1) (false, r, 0) := Ev.step' K2 (c2 _ z2) fun k hk => Gcd_s1 k [⟨s, l⟩, ⟨t, p⟩] 1 r1 b s2 (by simp) (by simp) (e2 k hk)
 have y1 : Ev (fun k => whole_Gcd.l1 k [] [⟨s, l⟩, ⟨t, p⟩] 2 0) (false, r, 0) := Ev.step' K1 (c1 _ z0) fun k hk => Gcd_s1 k [⟨s, l⟩, ⟨t, p⟩] 0 [] r1 s1 (by simp) (by simp) (e1 k hk)
 have y0 : Ev (fun k => whole_Gcd.l0 k [⟨s, l⟩, ⟨t, p⟩] [⟨s, l⟩, ⟨t, p⟩] 2 2) (false, r, 0) := Ev.step' 0 y1 fun k _ => Gcd_e0 k [⟨s, l⟩, ⟨t, p⟩]
 have x1 : Ev (fun k => whole_Gcd.l0 k [⟨s, l⟩, ⟨t, p⟩] [⟨s, l⟩, ⟨t, p⟩] 2 1) (false, r, 0) := Ev.step' K2 y0 fun k hk => Gcd_s0 k [⟨s, l⟩, ⟨t, p⟩] 1 b s2 (by simp) (by simp) (e2 k hk) (by omega)
 have x0 : Ev (fun k => whole_Gcd.l0 k [⟨s, l⟩, ⟨t, p⟩] [⟨s, l⟩, ⟨t, p⟩] 2 0) (false, r, 0) := Ev.step' K1 x1 fun k hk => Gcd_s0 k [⟨s, l⟩, ⟨t, p⟩] 0 r1 s1 (by simp) (by simp) (e1 k hk) (by omega)
 exact ⟨r, x0, ⟨by rw [Int.natAbs_natCast]; exact hr, by simp⟩⟩
end Go.Proofs.YtikencoikigllaaDoor.PurePRa
namespace Go.Proofs.YtikencoikigllaaDoor.PurePRa
set_option linter.unusedVariables false
set_option linter.unusedSimpArgs false
open Go.RowKit Go.Proofs.YtikencoikigllaaDoorW.PrintWords Go.Proofs.YtikencoikigllaaDoorW.PrintLast Go.Proofs.YtikencoikigllaaDoorW.PrintMore Go.Proofs.YtikencoikigllaaDoor.PRa Go.Proofs.YtikencoikigllaaDoor Go.Proofs.YtikencoikigllaaDoor.Mine Big
theorem natTrim_eq : ∀ (k : Nat) (x : List Int) (n : Int), nat_trim.l0 k x n = whole_trimmed.l0 k x n
 | 0, _, _ => rfl
 | k + 1, x, n => by rw [nat_trim.l0, whole_trimmed.l0, natTrim_eq k]
theorem natTrim_f (k : Nat) (l : List Int) : nat_trim.f k l = whole_trimmed.f k l := natTrim_eq k l _
theorem bitLen_pos {x : Nat} (h : x ≠ 0) (hx : x < 18446744073709551616) : 1 ≤ Lib.bitLen x := by
 rw [Lib.bitLen_half x h hx]; omega
theorem bitLenAux_le : ∀ (f x : Nat), Lib.bitLenAux f x ≤ f
 | 0, _ => by simp [Lib.bitLenAux]
 | f + 1, x => by
  have := bitLenAux_le f (x / 2)
  unfold Lib.bitLenAux
  split <;> omega
theorem top_get {a : List Int} (ht : Top a) (h0 : 0 < a.length) : a[a.length - 1] ≠ 0 := by
 have h := (Top_iff a).1 ht (List.length_pos_iff.1 h0)
 rwa [List.getLast_eq_getElem] at h
theorem limbs (l : List Int) (hl : l.length ≤ 1048576) (hd : Dig 18446744073709551616 l) :
  ∃ a N, (∀ s, Ev (fun k => whole_of.f k s l) (a, s && decide (0 < a.length))) ∧ Ev (fun k => nat_Len.f k l) N ∧ Rep 18446744073709551616 (val 18446744073709551616 l) a ∧ a.length ≤ l.length ∧ (N = 0 ↔ a = []) ∧ (N > 65536 ↔ 1024 < a.length) := by
 obtain ⟨m, hm, he, ht, hv⟩ := whole_trimmed_l0 l (by omega) l.length (l.length + 1) (Nat.le_refl _) (by omega)
 obtain ⟨K, hr⟩ := Ev.of (fun k => whole_trimmed.mono l k) he
 have R : Rep 18446744073709551616 (val 18446744073709551616 l) (l.take m) := ⟨hd.take m, ht, by rw [hv, List.take_length]⟩
 have hlen : (l.take m).length ≤ l.length := by rw [List.length_take]; omega
 refine ⟨l.take m, if l.take m = [] then 0 else 64 * ((l.take m).length - 1 : Int) + Lib.bitLen ((l.take m).getD ((l.take m).length - 1) 0).toNat, fun s => ⟨K, fun k hk => ?_⟩, ⟨K, fun k hk => ?_⟩, R, hlen, ?_, ?_⟩
 ·simp only [whole_of.f, hr k hk, Option.bind_some]
  cases s
  ·simp
  simp only [whole_amount_null.f, Option.bind_some, if_true]
  congr 2
  cases h : l.take m <;> simp <;> omega
 all_goals generalize hA : l.take m = a at *
 ·show nat_Len.f k l = _
  have hr' : whole_trimmed.f k l = _ := hr k hk
  rw [nat_Len.f, natTrim_f, hr', Option.bind_some]
  by_cases h0 : a = []
  ·subst h0; simp
  have hp := List.length_pos_iff.2 h0
  have hw : wrap64 ((a.length : Int) - 1) = ((a.length - 1 : Nat) : Int) := by rw [w64 _ (by omega)]; omega
  have hg := R.dig.get (a.length - 1) (by omega)
  rw [if_neg (by omega), hw, if_pos (by omega), if_pos (by omega), if_neg h0]
  have e : rd a ((a.length - 1 : Nat) : Int) = a[a.length - 1] := by
   unfold rd
   rw [Int.toNat_natCast, List.getD_eq_getElem?_getD, List.getElem?_eq_getElem (by omega)]; rfl
  have e2 : a.getD (a.length - 1) 0 = a[a.length - 1] := by
   rw [List.getD_eq_getElem?_getD, List.getElem?_eq_getElem (by omega)]; rfl
  rw [e, e2, bits_Len64.f, if_pos ⟨hg.1, by omega⟩, Option.bind_some]
  have hb := bitLenAux_le 64 a[a.length - 1].toNat
  have hb' : Lib.bitLen a[a.length - 1].toNat ≤ 64 := hb
  rw [w64 (64 * ((a.length - 1 : Nat) : Int)) (by omega), w64 _ (by omega)]
  congr 1
  omega
 ·by_cases h0 : a = []
  ·simp [h0]
  have hp := List.length_pos_iff.2 h0
  rw [if_neg h0]
  have hg := R.dig.get (a.length - 1) (by omega)
  have e2 : a.getD (a.length - 1) 0 = a[a.length - 1] := by
   rw [List.getD_eq_getElem?_getD, List.getElem?_eq_getElem (by omega)]; rfl
  have ht0 := top_get ht hp
  have := bitLen_pos (x := a[a.length - 1].toNat) (by omega) (by omega)
  rw [e2]
  constructor
  ·intro h; omega
  intro h; exact absurd h h0
 by_cases h0 : a = []
 ·subst h0; simp
 have hp := List.length_pos_iff.2 h0
 rw [if_neg h0]
 have hg := R.dig.get (a.length - 1) (by omega)
 have e2 : a.getD (a.length - 1) 0 = a[a.length - 1] := by
  rw [List.getD_eq_getElem?_getD, List.getElem?_eq_getElem (by omega)]; rfl
 have ht0 := top_get ht hp
 have h1 := bitLen_pos (x := a[a.length - 1].toNat) (by omega) (by omega)
 have h2 : Lib.bitLen a[a.length - 1].toNat ≤ 64 := bitLenAux_le 64 a[a.length - 1].toNat
 rw [e2]
 omega
theorem rat_low (n : Int) (d : Nat) (hd : d ≠ 0) : (mkRat n d).num = qn n ((Nat.gcd n.natAbs d : Nat) : Int) ∧ ((mkRat n d).den : Int) = qn (d : Int) ((Nat.gcd n.natAbs d : Nat) : Int) := by
 have hg : Nat.gcd n.natAbs d ≠ 0 := fun h => hd (Nat.gcd_eq_zero_iff.1 h).2
 rw [← Rat.normalize_eq_mkRat hd, Rat.num_normalize, Rat.den_normalize]
 generalize hG : Nat.gcd n.natAbs d = g at *
 have h1 : g ∣ n.natAbs := hG ▸ Nat.gcd_dvd_left _ _
 constructor
 ·show n / (g : Int) = _
  unfold qn
  rw [show decide ((g : Int) < 0) = false from decide_eq_false (by omega), Int.natAbs_natCast]
  rcases Int.lt_or_le n 0 with h | h
  ·rw [decide_eq_true h, if_pos (by decide)]
   obtain ⟨c, hc⟩ := h1
   have : n = -((g : Int) * (c : Int)) := by rw [← Int.natCast_mul, ← hc]; omega
   rw [this, Int.natAbs_neg, Int.natAbs_mul, Int.natAbs_natCast, Int.natAbs_natCast, ← Int.mul_neg, Int.mul_ediv_cancel_left _ (by omega), Int.natCast_mul, Int.mul_ediv_cancel_left _ (by omega)]
  rw [decide_eq_false (by omega), if_neg (by decide), show ((n.natAbs : Nat) : Int) = n from by omega]
 show (((d / g : Nat)) : Int) = _
 unfold qn
 rw [decide_eq_false (by omega), decide_eq_false (by omega), if_neg (by decide), Int.natAbs_natCast, Int.natAbs_natCast, Int.natCast_ediv]
theorem rat_den_pos (r : Rat) : (0 : Int) < (r.den : Int) := by have := r.den_nz; omega
def B1024 : Int := 18446744073709551616 ^ 1024
def Lg (r : Rat) : Bool := decide (B1024 ≤ (r.num.natAbs : Int)) || decide (B1024 ≤ (r.den : Int))
def FA (L : Nat) (r : Rat) (s : Bool) (l : List Int) (t : Bool) (p : List Int) : Prop := ∃ (n : Int) (d : Nat), AN L n s l ∧ AN L (d : Int) t p ∧ d ≠ 0 ∧ r = mkRat n d
structure FQ (L : Nat) (r : Rat) (s : Bool) (l : List Int) (t : Bool) (p : List Int) : Prop where
 n : Num 18446744073709551616 r.num s l
 d : Num 18446744073709551616 (r.den : Int) t p
 ln : l.length ≤ L
 ld : p.length ≤ L
theorem FQ.a {L : Nat} {r : Rat} {s t : Bool} {l p : List Int} (h : FQ L r s l t p) (hL : L ≤ 1048576) : FA L r s l t p :=
 ⟨r.num, r.den, AN.of h.n h.ln hL, AN.of h.d h.ld hL, r.den_nz, (Rat.mkRat_self r).symm⟩
theorem FA.up {L L' : Nat} {r : Rat} {s t : Bool} {l p : List Int} (h : FA L r s l t p) (hL : L ≤ L') : FA L' r s l t p := by
 obtain ⟨n, d, a, b, c, e⟩ := h
 exact ⟨n, d, a.up hL, b.up hL, c, e⟩
theorem FQ.t {L : Nat} {r : Rat} {s t : Bool} {l p : List Int} (h : FQ L r s l t p) : t = false := by
 rw [h.d.sign]; exact decide_eq_false (by omega)
theorem len_iff {n : Int} {s : Bool} {l : List Int} (h : Num 18446744073709551616 n s l) (m : Nat) : l.length ≤ m ↔ (n.natAbs : Int) < 18446744073709551616 ^ m := by
 constructor
 ·intro hl
  exact Int.lt_of_lt_of_le (h.rep.lt (by decide)) (pow_le_pow (by decide) hl)
 intro hv
 exact rep_len (by decide) h.rep hv
theorem len_big {n : Int} {s : Bool} {l : List Int} (h : Num 18446744073709551616 n s l) : l.length ≤ 1024 ↔ (n.natAbs : Int) < B1024 := len_iff h 1024
theorem long_num {n : Int} {s : Bool} {l : List Int} (h : Num 18446744073709551616 n s l) (hl : l.length ≤ 1048576) (t : Bool) : Ev (fun k => ratio_number_long.f k t l) (decide (B1024 ≤ (n.natAbs : Int))) := by
 obtain ⟨a, N, _, ⟨K, e⟩, R, _, _, h2⟩ := limbs l hl h.rep.dig
 obtain rfl : a = l := by
  rw [h.rep.val] at R
  exact R.uniq (by decide) h.rep
 refine ⟨K, fun k hk => ?_⟩
 show ratio_number_long.f k t a = _
 have e' : nat_Len.f k a = _ := e k hk
 rw [ratio_number_long.f, e', Option.bind_some]
 refine congrArg some (decide_eq_decide.2 ?_)
 rw [h2]
 have := len_big h
 omega
section
variable {L : Nat} {r q : Rat} {s t u v : Bool} {l p x y : List Int}
theorem fr_low_ev (h : FA L r s l t p) (hL : L ≤ 4000) : ∃ a b c d, Ev (fun k => ratio_fraction_low.f k s l t p) (a, b, c, d) ∧ FQ L r a b c d := by
 obtain ⟨n, m, A, D, hm, rfl⟩ := h
 obtain ⟨g, ⟨K1, e1⟩, G⟩ := Gcd_two (by omega) A D
 rw [Int.natAbs_natCast] at G
 have hg : Nat.gcd n.natAbs m ≠ 0 := fun h => hm (Nat.gcd_eq_zero_iff.1 h).2
 have lg : g.length ≤ L := by
  obtain ⟨a, s2, _, N2, l2⟩ := D
  have h1 := Nat.gcd_le_right n.natAbs (show 0 < m by omega)
  have := len_small (by decide) N2 G (by omega)
  omega
 have GA := AN.of G lg (by omega)
 obtain ⟨a, b, _, _, ⟨K2, e2⟩, Q1, _, l1, _⟩ := A.quo GA (by omega) hL hL
 obtain ⟨c, d, _, _, ⟨K3, e3⟩, Q2, _, l2, _⟩ := D.quo GA (by omega) hL hL
 obtain ⟨i1, i2⟩ := rat_low n m hm
 rw [← i1] at Q1
 rw [← i2] at Q2
 refine ⟨a, b, c, d, ⟨K1 + K2 + K3, fun k hk => ?_⟩, ⟨Q1, Q2, l1, l2⟩⟩
 have g1 : whole_Gcd.f k [⟨s, l⟩, ⟨t, p⟩] = _ := e1 k (by omega)
 have g2 : whole_Quo.f k s l false g = _ := e2 k (by omega)
 have g3 : whole_Quo.f k t p false g = _ := e3 k (by omega)
 show ratio_fraction_low.f k s l t p = _
 rw [ratio_fraction_low.f, g1, Option.bind_some, g2, Option.bind_some, g3, Option.bind_some]
theorem fr_out_ev (h : FA L r s l t p) (hL : L ≤ 4000) : ∃ a b c d, Ev (fun k => ratio_fraction_out.f k s l t p) (if Lg r then (false, [], [], 5) else (a, b, d, 0)) ∧ FQ L r a b c d := by
 obtain ⟨a, b, c, d, ⟨K1, e1⟩, Q⟩ := fr_low_ev h hL
 obtain ⟨K2, e2⟩ := long_num Q.n (by have := Q.ln; omega) a
 obtain ⟨K3, e3⟩ := long_num Q.d (by have := Q.ld; omega) c
 refine ⟨a, b, c, d, ⟨K1 + K2 + K3, fun k hk => ?_⟩, Q⟩
 have g1 : ratio_fraction_low.f k s l t p = _ := e1 k (by omega)
 have g2 : ratio_number_long.f k a b = _ := e2 k (by omega)
 have g3 : ratio_number_long.f k c d = _ := e3 k (by omega)
 rw [Int.natAbs_natCast] at g3
 show ratio_fraction_out.f k s l t p = _
 rw [ratio_fraction_out.f, g1, Option.bind_some, g2, Option.bind_some]
 unfold Lg
 by_cases h1 : B1024 ≤ (r.num.natAbs : Int)
 ·rw [decide_eq_true h1, if_pos rfl, Bool.true_or, if_pos rfl]
 rw [decide_eq_false h1, if_neg (by decide), g3, Option.bind_some, Bool.false_or]
 split <;> rfl
theorem fr_times_ev {n m : Int} {L L' : Nat} (h : AN L n s l) (g : AN L' m t p) (hL : L + L' ≤ 4096) : ∃ a b, Ev (fun k => ratio_number_times.f k s l t p) (a, b) ∧ AN (L + L') (n * m) a b := by
 obtain ⟨a, b, ⟨K, e⟩, N, lb⟩ := h.mul g hL
 refine ⟨a, b, ⟨K, fun k hk => ?_⟩, AN.of N lb (by omega)⟩
 have g1 : whole_Mul.f k s l t p = _ := e k hk
 show ratio_number_times.f k s l t p = _
 rw [ratio_number_times.f, g1, Option.bind_some]
end
structure Arg (c : Int) (r : Rat) (s : Bool) (l p : List Int) : Prop where
 made : Ev (fun k => ratio_made.f k s l p) (if c = 0 then (s, l, false, p, 0) else (false, [], false, [], c))
 len : ∃ N, Ev (fun k => nat_Len.f k p) N ∧ (N = 0 ↔ c = 11)
 is : c = 0 ∨ c = 5 ∨ c = 11
 fr : c = 0 → FA 1024 r s l false p
theorem Arg.mk' (s : Bool) (l p : List Int) (hl : l.length ≤ 1048576) (hp : p.length ≤ 1048576) (dl : Dig 18446744073709551616 l) (dp : Dig 18446744073709551616 p) : ∃ c r, Arg c r s l p := by
 obtain ⟨a, N, E1, ⟨K1, e1⟩, R1, l1, _, h1⟩ := limbs l hl dl
 obtain ⟨b, M, E2, ⟨K2, e2⟩, R2, l2, z2, h2⟩ := limbs p hp dp
 have m0 : ∀ k, K1 + K2 ≤ k → ratio_made.f k s l p = if M = 0 then some (false, [], false, [], 11) else if N > 65536 then some (false, [], false, [], 5) else if M > 65536 then some (false, [], false, [], 5) else some (s, l, false, p, 0) := by
  intro k hk
  have g1 : nat_Len.f k l = _ := e1 k (by omega)
  have g2 : nat_Len.f k p = _ := e2 k (by omega)
  rw [ratio_made.f, g2, Option.bind_some]
  by_cases c1 : M = 0
  ·rw [if_pos c1, if_pos c1]
  rw [if_neg c1, if_neg c1, ratio_number_long.f, g1, Option.bind_some, Option.bind_some]
  by_cases c2 : N > 65536
  ·rw [if_pos (by simpa using c2), if_pos c2]
  rw [if_neg (by simpa using c2), if_neg c2, ratio_number_long.f, g2, Option.bind_some, Option.bind_some]
  by_cases c3 : M > 65536
  ·rw [if_pos (by simpa using c3), if_pos c3]
  rw [if_neg (by simpa using c3), if_neg c3]
 by_cases c1 : M = 0
 ·exact ⟨11, 0, ⟨K1 + K2, fun k hk => by rw [if_neg (by decide)]; exact (m0 k hk).trans (if_pos c1)⟩, ⟨M, ⟨K2, e2⟩, by simp [c1]⟩, by simp, fun h => absurd h (by decide)⟩
 by_cases c2 : N > 65536
 ·exact ⟨5, 0, ⟨K1 + K2, fun k hk => by rw [if_neg (by decide)]; exact ((m0 k hk).trans (if_neg c1)).trans (if_pos c2)⟩, ⟨M, ⟨K2, e2⟩, by simp [c1]⟩, by simp, fun h => absurd h (by decide)⟩
 by_cases c3 : M > 65536
 ·exact ⟨5, 0, ⟨K1 + K2, fun k hk => by rw [if_neg (by decide)]; exact (((m0 k hk).trans (if_neg c1)).trans (if_neg c2)).trans (if_pos c3)⟩, ⟨M, ⟨K2, e2⟩, by simp [c1]⟩, by simp, fun h => absurd h (by decide)⟩
 have hv1 := R1.nonneg (by decide)
 have hv2 := R2.nonneg (by decide)
 have hne : val 18446744073709551616 p ≠ 0 := fun h => c1 (z2.2 ((R2.nil_iff (by decide)).2 h))
 have A1 : AN 1024 (if s = true then -(val 18446744073709551616 l) else val 18446744073709551616 l) s l := ⟨a, _, E1 s, Num.of_rep (by decide) R1 s, by omega⟩
 have A2 : AN 1024 ((val 18446744073709551616 p).toNat : Int) false p := ⟨b, _, E2 false, by have := Num.of_rep (by decide) R2 false; rwa [if_neg (by decide), show val 18446744073709551616 p = ((val 18446744073709551616 p).toNat : Int) from by omega] at this, by omega⟩
 exact ⟨0, mkRat (if s = true then -(val 18446744073709551616 l) else val 18446744073709551616 l) (val 18446744073709551616 p).toNat, ⟨K1 + K2, fun k hk => by rw [if_pos rfl]; exact (((m0 k hk).trans (if_neg c1)).trans (if_neg c2)).trans (if_neg c3)⟩, ⟨M, ⟨K2, e2⟩, by simp [c1]⟩, by simp, fun _ => ⟨_, _, A1, A2, by omega, rfl⟩⟩
end Go.Proofs.YtikencoikigllaaDoor.PurePRa
namespace Go.Proofs.YtikencoikigllaaDoor.PurePRa
set_option linter.unusedVariables false
set_option linter.unusedSimpArgs false
open Go.RowKit Go.Proofs.YtikencoikigllaaDoorW.PrintWords Go.Proofs.YtikencoikigllaaDoorW.PrintLast Go.Proofs.YtikencoikigllaaDoorW.PrintMore Go.Proofs.YtikencoikigllaaDoor.PRa Go.Proofs.YtikencoikigllaaDoor Go.Proofs.YtikencoikigllaaDoor.Mine Big
theorem alive_ev : Ev (fun k => tribunallaw03_alive.f k) true := Ev.of (fun k => tribunallaw03_alive.mono k) (k := 80) (by kernel_rfl)
def two (c e : Int) : Int := if c = 11 ∨ e = 11 then 11 else if c = 5 ∨ e = 5 then 5 else 0
theorem two_zero {c e : Int} (hc : c = 0 ∨ c = 5 ∨ c = 11) (he : e = 0 ∨ e = 5 ∨ e = 11) : two c e = 0 ↔ c = 0 ∧ e = 0 := by
 unfold two; rcases hc with rfl | rfl | rfl <;> rcases he with rfl | rfl | rfl <;> simp
abbrev mkT (s : Bool) (l p : List Int) : S41 := ⟨⟨s, l⟩, p⟩
abbrev mkF (s : Bool) (l : List Int) (t : Bool) (p : List Int) : S89 := ⟨⟨⟨s, l⟩⟩, ⟨⟨t, p⟩⟩⟩
theorem all_ev {c e : Int} {r q : Rat} {s u : Bool} {l p x y : List Int} (h : Arg c r s l p) (g : Arg e q u x y) :
  Ev (fun k => ratio_all.f k [mkT s l p, mkT u x y]) (if two c e = 0 then [mkF s l false p, mkF u x false y] else [], two c e) := by
 obtain ⟨K1, e1⟩ := h.made
 obtain ⟨K2, e2⟩ := g.made
 obtain ⟨N1, ⟨K3, e3⟩, z1⟩ := h.len
 obtain ⟨N2, ⟨K4, e4⟩, z2⟩ := g.len
 refine ⟨K1 + K2 + K3 + K4 + 6, fun k hk => ?_⟩
 obtain ⟨k, rfl⟩ : ∃ j, k = j + 6 := ⟨k - 6, by omega⟩
 have a0 : nat_Len.f (k + 5) p = _ := e3 _ (by omega)
 have a1 : nat_Len.f (k + 4) y = _ := e4 _ (by omega)
 have b0 : ratio_made.f (k + 2) s l p = _ := e1 _ (by omega)
 have b1 : ratio_made.f (k + 1) u x y = _ := e2 _ (by omega)
 have w1 : wrap64 ((0 : Int) + 1) = 1 := (w64 _ (by omega)).trans rfl
 have w2 : wrap64 ((1 : Int) + 1) = 2 := (w64 _ (by omega)).trans rfl
 have rd0 : rd_T41 [mkT s l p, mkT u x y] 0 = mkT s l p := rfl
 have rd1 : rd_T41 [mkT s l p, mkT u x y] 1 = mkT u x y := rfl
 have hc := h.is
 have he := g.is
 show ratio_all.l0 (k + 6) [mkT s l p, mkT u x y] [mkT s l p, mkT u x y] 2 0 = _
 rw [ratio_all.l0, if_pos (by decide), if_pos (by decide), if_pos (by simp), rd0, a0, Option.bind_some]
 by_cases y1 : c = 11
 ·rw [if_pos (z1.2 y1)]
  subst y1
  simp [two]
 rw [if_neg (fun h => y1 (z1.1 h)), w1, ratio_all.l0, if_pos (by decide), if_pos (by decide), if_pos (by simp), rd1, a1, Option.bind_some]
 by_cases y2 : e = 11
 ·rw [if_pos (z2.2 y2)]
  subst y2
  simp [two]
 rw [if_neg (fun h => y2 (z2.1 h)), w2, ratio_all.l0, if_neg (by decide)]
 show ratio_all.l1 (k + 3) [] [mkT s l p, mkT u x y] 2 0 = _
 rw [ratio_all.l1, if_pos (by decide), if_pos (by decide), if_pos (by simp), rd0, b0, Option.bind_some]
 by_cases y3 : c = 0
 ·rw [if_pos y3, if_pos (by exact rfl), if_pos (by simp), w1, ratio_all.l1, if_pos (by decide), if_pos (by decide), if_pos (by simp), rd1, b1, Option.bind_some]
  by_cases y4 : e = 0
  ·rw [if_pos y4, if_pos (by exact rfl), if_pos (by simp), w2, ratio_all.l1, if_neg (by decide), (two_zero hc he).2 ⟨y3, y4⟩, if_pos rfl]
   rfl
  have : e = 5 := by omega
  subst y3; subst this
  simp [two]
 have : c = 5 := by omega
 subst this
 simp [two, y2]
def rsg (r : Rat) : Int := sg r.num
theorem sg_eq_of {a b : Int} (h1 : a < 0 ↔ b < 0) (h2 : a = 0 ↔ b = 0) : sg a = sg b := by
 unfold sg
 by_cases h : a < 0
 ·rw [if_pos h, if_pos (h1.1 h)]
 rw [if_neg h, if_neg (fun g => h (h1.2 g))]
 by_cases g : a = 0
 ·rw [if_pos g, if_pos (h2.1 g)]
 rw [if_neg g, if_neg (fun g' => g (h2.2 g'))]
theorem mkRat_num {n : Int} {d : Nat} (hd : d ≠ 0) : n * ((mkRat n d).den : Int) = (mkRat n d).num * (d : Int) := by
 have := Rat.mkRat_self (mkRat n d)
 have h := (Rat.mkRat_eq_iff hd (mkRat n d).den_nz).1 this.symm
 exact h
theorem rsg_mkRat (n : Int) {d : Nat} (hd : d ≠ 0) : rsg (mkRat n d) = sg n := by
 have h := mkRat_num (n := n) hd
 have hp := rat_den_pos (mkRat n d)
 have hq : (0 : Int) < (d : Int) := by omega
 unfold rsg
 generalize (mkRat n d).num = a at *
 generalize ((mkRat n d).den : Int) = b at *
 generalize (d : Int) = c at *
 refine sg_eq_of ⟨fun ha => ?_, fun ha => ?_⟩ ⟨fun ha => ?_, fun ha => ?_⟩
 ·have := Int.mul_neg_of_neg_of_pos ha hq
  rcases Int.lt_trichotomy n 0 with g | g | g
  ·exact g
  ·rw [g, Int.zero_mul] at h; omega
  have := Int.mul_pos g hp; omega
 ·have := Int.mul_neg_of_neg_of_pos ha hp
  rcases Int.lt_trichotomy a 0 with g | g | g
  ·exact g
  ·rw [g, Int.zero_mul] at h; omega
  have := Int.mul_pos g hq; omega
 ·rw [ha, Int.zero_mul] at h
  rcases Int.mul_eq_zero.1 h with g | g
  ·exact g
  omega
 rw [ha, Int.zero_mul] at h
 rcases Int.mul_eq_zero.1 h.symm with g | g
 ·exact g
 omega
theorem sub_mkRat (n m : Int) {d e : Nat} (hd : d ≠ 0) (he : e ≠ 0) : mkRat n d - mkRat m e = mkRat (n * e - m * d) (d * e) := by
 rw [Rat.sub_eq_add_neg, Rat.neg_mkRat, Rat.mkRat_add_mkRat _ _ hd he, Int.neg_mul, Int.sub_eq_add_neg]
theorem Cmp_ev {c e : Int} {r q : Rat} {s u : Bool} {l p x y : List Int} (h : Arg c r s l p) (g : Arg e q u x y) :
  Ev (fun k => ratio_Cmp.f k s l p u x y) (if two c e = 0 then rsg (r - q) else 0, two c e) := by
 obtain ⟨K1, e1⟩ := all_ev h g
 by_cases hz : two c e = 0
 ·obtain ⟨h1, h2⟩ := (two_zero h.is g.is).1 hz
  obtain ⟨n1, d1, A1, D1, z1, er⟩ := h.fr h1
  obtain ⟨n2, d2, A2, D2, z2, eq⟩ := g.fr h2
  obtain ⟨a1, b1, ⟨K2, e2⟩, M1⟩ := fr_times_ev A1 D2 (by omega)
  obtain ⟨a2, b2, ⟨K3, e3⟩, M2⟩ := fr_times_ev A2 D1 (by omega)
  obtain ⟨K4, e4⟩ := M1.cmp M2 (by omega) (by omega)
  refine ⟨K1 + K2 + K3 + K4, fun k hk => ?_⟩
  have g1 : ratio_all.f k [mkT s l p, mkT u x y] = _ := e1 k (by omega)
  have g2 : ratio_number_times.f k s l false y = _ := e2 k (by omega)
  have g3 : ratio_number_times.f k u x false p = _ := e3 k (by omega)
  have g4 : whole_Cmp.f k a1 b1 a2 b2 = _ := e4 k (by omega)
  show ratio_Cmp.f k s l p u x y = _
  rw [hz, if_pos rfl] at g1
  rw [ratio_Cmp.f, g1, Option.bind_some, if_pos (by exact rfl), if_pos (by exact rfl), hz, if_pos rfl]
  show (ratio_number_times.f k s l false y).bind _ = _
  rw [g2, Option.bind_some]
  show (ratio_number_times.f k u x false p).bind _ = _
  rw [g3, Option.bind_some, g4, Option.bind_some, er, eq, sub_mkRat _ _ z1 z2, rsg_mkRat _ (Nat.mul_ne_zero z1 z2)]
 refine ⟨K1, fun k hk => ?_⟩
 have g1 : ratio_all.f k [mkT s l p, mkT u x y] = _ := e1 k (by omega)
 show ratio_Cmp.f k s l p u x y = _
 rw [if_neg hz] at g1 ⊢
 rw [ratio_Cmp.f, g1, Option.bind_some, if_neg hz]
theorem Lg_false {r : Rat} : Lg r = false ↔ (r.num.natAbs : Int) < B1024 ∧ (r.den : Int) < B1024 := by
 unfold Lg
 simp
theorem FQ.lens {L : Nat} {r : Rat} {s t : Bool} {l p : List Int} (Q : FQ L r s l t p) : Lg r = false ↔ l.length ≤ 1024 ∧ p.length ≤ 1024 := by
 have h1 := len_big Q.n
 have h2 := len_big Q.d
 rw [Int.natAbs_natCast] at h2
 rw [Lg_false, h1, h2]
theorem FQ.low {L : Nat} {r : Rat} {s t : Bool} {l p : List Int} (Q : FQ L r s l t p) (h : Lg r = false) : FQ 1024 r s l t p :=
 ⟨Q.n, Q.d, (Q.lens.1 h).1, (Q.lens.1 h).2⟩
theorem Arg.of {L : Nat} {r : Rat} {s t : Bool} {l p : List Int} (Q : FQ L r s l t p) (hL : L ≤ 1048576) (hz : Lg r = false) : Arg 0 r s l p := by
 have ht := Q.t
 subst ht
 have q := Q.low hz
 obtain ⟨a, N, E1, ⟨K1, e1⟩, R1, l1, _, h1⟩ := limbs l (by have := Q.ln; omega) Q.n.rep.dig
 obtain ⟨b, M, E2, ⟨K2, e2⟩, R2, l2, z2, h2⟩ := limbs p (by have := Q.ld; omega) Q.d.rep.dig
 obtain rfl : a = l := by
  have h := Q.n.rep
  rw [h.val] at R1
  exact R1.uniq (by decide) h
 obtain rfl : b = p := by
  have h := Q.d.rep
  rw [h.val] at R2
  exact R2.uniq (by decide) h
 have d1 := q.ln
 have d2 := q.ld
 have c1 : M ≠ 0 := by
  intro h
  have hb := z2.1 h
  have := (Q.d.rep.nil_iff (by decide)).1 hb
  have := rat_den_pos r
  omega
 have c2 : ¬ N > 65536 := fun h => by have := h1.1 h; omega
 have c3 : ¬ M > 65536 := fun h => by have := h2.1 h; omega
 refine ⟨⟨K1 + K2, fun k hk => ?_⟩, ⟨M, ⟨K2, e2⟩, by simp [c1]⟩, .inl rfl, fun _ => q.a (by omega)⟩
 have g1 : nat_Len.f k a = _ := e1 k (by omega)
 have g2 : nat_Len.f k b = _ := e2 k (by omega)
 show ratio_made.f k s a b = _
 rw [ratio_made.f, g2, Option.bind_some, if_neg c1, ratio_number_long.f, g1, Option.bind_some, Option.bind_some, if_neg (by simpa using c2), ratio_number_long.f, g2, Option.bind_some, Option.bind_some, if_neg (by simpa using c3), if_pos rfl]
def Res (c : Int) (r : Rat) (z : Bool × List Int × List Int × Int) : Prop :=
 c ≠ 0 ∧ z = (false, [], [], c) ∨ c = 0 ∧ (Lg r = true ∧ z = (false, [], [], 5) ∨ Lg r = false ∧ z.2.2.2 = 0 ∧ ∃ t, FQ 1024 r z.1 z.2.1 t z.2.2.1)
theorem out_res {L : Nat} {r : Rat} {s t : Bool} {l p : List Int} (h : FA L r s l t p) (hL : L ≤ 4000) : ∃ z, Ev (fun k => ratio_fraction_out.f k s l t p) z ∧ Res 0 r z := by
 obtain ⟨a, b, c, d, ⟨K, e⟩, Q⟩ := fr_out_ev h hL
 refine ⟨_, ⟨K, e⟩, .inr ⟨rfl, ?_⟩⟩
 cases hl : Lg r
 ·exact .inr ⟨rfl, rfl, c, (Q.low hl)⟩
 exact .inl ⟨rfl, rfl⟩
theorem FA_int (x : Int) {L : Nat} {u v : Bool} {q o : List Int} (h : Num 18446744073709551616 x u q) (hl : q.length ≤ L) (g : Num 18446744073709551616 1 v o) (lo : o.length ≤ 1) (hL : L ≤ 1048576) (h1 : 1 ≤ L) : FA L (mkRat x 1) u q v o :=
 ⟨x, 1, AN.of h hl hL, (AN.of (L := 1) (by simpa using g) lo (by omega)).up h1, by decide, rfl⟩
theorem told_eq (s : Bool) (l : List Int) : whole_number_told.f l s = some (if l.length > 4096 then (false, [], 5) else (s, l, 0)) := by
 by_cases hc : l.length > 4096
 ·simp only [whole_number_told.f, whole_number_long.f, Option.bind_some]
  rw [if_pos (by simp; omega), if_pos hc]
 simp only [whole_number_told.f, whole_number_long.f, Option.bind_some]
 rw [if_neg (by simp; omega), if_neg hc, whole_number_out.f, api_Nat_uint64.f, if_pos (by omega), Option.bind_some, Option.bind_some]
def ro (n m : Int) (up : Bool) : Int := if rn n m = 0 then qn n m else if up = true then (if decide (n < 0) = decide (m < 0) then qn n m + 1 else qn n m) else (if decide (n < 0) = decide (m < 0) then qn n m else qn n m - 1)
theorem rn_sign {n m : Int} (hm : m ≠ 0) (h : rn n m ≠ 0) : decide (rn n m < 0) = decide (n < 0) := by
 have h1 := rn_abs n hm
 have h2 : 0 ≤ (n.natAbs : Int) % (m.natAbs : Int) := Int.emod_nonneg _ (by omega)
 unfold rn at h ⊢
 by_cases hn : n < 0
 ·rw [if_pos (decide_eq_true hn)] at h ⊢
  rw [decide_eq_true hn]; exact decide_eq_true (by omega)
 rw [if_neg (by simpa using hn)] at h ⊢
 rw [decide_eq_false hn]; exact decide_eq_false (by omega)
theorem rounded_ev {n m : Int} {s t : Bool} {a b : List Int} (ha : Num 18446744073709551616 n s a) (hb : Num 18446744073709551616 m t b) (hm : m ≠ 0) (la : a.length ≤ 1048576) (lb : b.length ≤ 1048576) {x : Bool} {l : List Int} {y : Bool} {p : List Int} (h1 : Ev (fun k => whole_of.f k x l) (a, s)) (h2 : Ev (fun k => whole_of.f k y p) (b, t)) (up : Bool) :
  ∃ u q, Num 18446744073709551616 (ro n m up) u q ∧ Ev (fun k => whole_rounded.f k x l y p up) (if q.length > 4096 then (false, [], 5) else (u, q, 0)) := by
 obtain ⟨K1, e1⟩ := h1
 obtain ⟨K2, e2⟩ := h2
 obtain ⟨u, q, v, r, ⟨K3, e3⟩, N3, N4⟩ := cut_num ha hb hm (by omega) (by omega)
 have hne : ¬ decide (b = []) = true := by simpa using fun h => hm ((num_nil (by decide) hb).1 h)
 have lq := len_small (by decide) ha N3 (qn_le n m)
 have sv := N4.sign
 have ss := ha.sign
 have st := hb.sign
 obtain ⟨o1, No⟩ := one_num
 have inil := num_nil (by decide) N4
 have hd : ∀ k, K1 + K2 + K3 ≤ k → whole_rounded.f k x l y p up = (if decide (r = []) = true then (whole_number_told.f q u).bind fun z => some (z.1, z.2.1, z.2.2) else if up = true then whole_rounded.j0 k up (v == t) b t q u r v else whole_rounded.j0 k up false b t q u r v) := by
  intro k hk
  have g1 : whole_of.f k x l = _ := e1 k (by omega)
  have g2 : whole_of.f k y p = _ := e2 k (by omega)
  have g3 : whole_number_cut.f k a s b t = _ := e3 k (by omega)
  rw [whole_rounded.f, g2, Option.bind_some, null_eq, Option.bind_some, if_neg hne, g1, Option.bind_some, g3, Option.bind_some, null_eq, Option.bind_some]
 by_cases hr0 : rn n m = 0
 ·refine ⟨u, q, by unfold ro; rw [if_pos hr0]; exact N3, ⟨K1 + K2 + K3, fun k hk => ?_⟩⟩
  show whole_rounded.f k x l y p up = _
  rw [hd k hk, if_pos (decide_eq_true (inil.2 hr0)), told_eq, Option.bind_some]
 have hrn : ¬ decide (r = []) = true := by simpa using fun h => hr0 (inil.1 h)
 have hvs : v = s := by rw [sv, ss]; exact rn_sign hm hr0
 obtain ⟨u2, q2, ⟨K4, e4⟩, N5⟩ := plus_num N3 No (by omega) (by simp)
 obtain ⟨u3, q3, ⟨K5, e5⟩, N6⟩ := minus_num N3 No (by omega) (by simp)
 by_cases hst : decide (n < 0) = decide (m < 0)
 ·have hst' : v = t := by rw [hvs, ss, st]; exact hst
  cases up with
  | true =>
   refine ⟨u2, q2, by unfold ro; rw [if_neg hr0, if_pos rfl, if_pos hst]; exact N5, ⟨K1 + K2 + K3 + K4 + 1, fun k hk => ?_⟩⟩
   obtain ⟨k, rfl⟩ : ∃ j, k = j + 1 := ⟨k - 1, by omega⟩
   have g4 : whole_number_plus.f k q u [1] false = _ := e4 k (by omega)
   show whole_rounded.f (k + 1) x l y p true = _
   rw [hd (k + 1) (by omega), if_neg hrn, if_pos rfl, whole_rounded.j0, if_pos (by rw [hst']; exact beq_self_eq_true t), o1, Option.bind_some, g4, Option.bind_some, told_eq, Option.bind_some]
  | false =>
   refine ⟨u, q, by unfold ro; rw [if_neg hr0, if_neg (by decide), if_pos hst]; exact N3, ⟨K1 + K2 + K3 + K4 + 2, fun k hk => ?_⟩⟩
   obtain ⟨k, rfl⟩ : ∃ j, k = j + 2 := ⟨k - 2, by omega⟩
   show whole_rounded.f (k + 1 + 1) x l y p false = _
   rw [hd (k + 1 + 1) (by omega), if_neg hrn, if_neg (by decide), whole_rounded.j0, if_neg (by decide), if_neg (by decide), whole_rounded.j1, if_neg (by rw [hst']; simp), told_eq, Option.bind_some]
 have hst' : ¬ v = t := by rw [hvs, ss, st]; exact hst
 cases up with
 | true =>
  refine ⟨u, q, by unfold ro; rw [if_neg hr0, if_pos rfl, if_neg hst]; exact N3, ⟨K1 + K2 + K3 + K4 + 2, fun k hk => ?_⟩⟩
  obtain ⟨k, rfl⟩ : ∃ j, k = j + 2 := ⟨k - 2, by omega⟩
  show whole_rounded.f (k + 1 + 1) x l y p true = _
  rw [hd (k + 1 + 1) (by omega), if_neg hrn, if_pos rfl, whole_rounded.j0, if_neg (by simpa using hst'), if_pos rfl, whole_rounded.j1, if_neg (by decide), told_eq, Option.bind_some]
 | false =>
  refine ⟨u3, q3, by unfold ro; rw [if_neg hr0, if_neg (by decide), if_neg hst]; exact N6, ⟨K1 + K2 + K3 + K5 + 2, fun k hk => ?_⟩⟩
  obtain ⟨k, rfl⟩ : ∃ j, k = j + 2 := ⟨k - 2, by omega⟩
  have g5 : whole_number_minus.f k q u [1] false = _ := e5 k (by omega)
  show whole_rounded.f (k + 1 + 1) x l y p false = _
  rw [hd (k + 1 + 1) (by omega), if_neg hrn, if_neg (by decide), whole_rounded.j0, if_neg (by decide), if_neg (by decide), whole_rounded.j1, if_pos (by simpa using hst'), o1, Option.bind_some, g5, Option.bind_some, told_eq, Option.bind_some]
theorem AN.rounded {L L' : Nat} {n m : Int} {s t : Bool} {l p : List Int} (h : AN L n s l) (g : AN L' m t p) (hm : m ≠ 0) (hL : L ≤ 4000) (hL' : L' ≤ 4000) (up : Bool) : ∃ u q, Ev (fun k => whole_rounded.f k s l t p up) (u, q, 0) ∧ Num 18446744073709551616 (ro n m up) u q ∧ q.length ≤ L + 1 := by
 obtain ⟨a, s1, E1, N1, l1⟩ := h
 obtain ⟨b, s2, E2, N2, l2⟩ := g
 obtain ⟨u, q, N3, hW⟩ := rounded_ev N1 N2 hm (by omega) (by omega) E1 E2 up
 obtain ⟨o1, No⟩ := one_num
 have h1 := qn_le n m
 have h2 : ((ro n m up).natAbs : Int) ≤ n.natAbs + 1 := by
  unfold ro
  split
  ·omega
  split
  ·split <;> omega
  split <;> omega
 have hq : q.length ≤ L + 1 := by
  by_cases h0 : a.length = 0
  ·have hn : n = 0 := (num_nil (by decide) N1).1 (List.length_eq_zero_iff.1 h0)
   have := len_small (by decide) No N3 (by omega)
   simp at this
   omega
  have := num_len (by decide) N1 No N3 (by omega) (L := max a.length 1) (by omega) (by simp; omega)
  omega
 rw [if_neg (by omega)] at hW
 exact ⟨u, q, hW, N3, hq⟩
theorem sg_eq_zero (n : Int) : sg n = 0 ↔ n = 0 := by
 rcases Int.lt_trichotomy n 0 with h | h | h
 ·rw [sg_neg h]; omega
 ·rw [sg_zero h]; omega
 rw [sg_pos h]; omega
theorem near_math (n : Int) {m : Int} (hm : m ≠ 0) : ro n m true - ro n m false = (if rn n m = 0 then 0 else 1) ∧ ((n - ro n m false * m).natAbs : Int) < m.natAbs ∧ (n - ro n m false * m ≠ 0 → sg (n - ro n m false * m) = sg m) := by
 have h1 := qr_eq n hm
 have h2 := rn_lt n hm
 have h3 := rn_pos n hm
 have key : ∀ c : Int, n - (qn n m - c) * m = rn n m + c * m := by
  intro c
  rw [Int.sub_mul]; omega
 by_cases hr : rn n m = 0
 ·have e1 : ro n m true = qn n m := by unfold ro; rw [if_pos hr]
  have e2 : ro n m false = qn n m := by unfold ro; rw [if_pos hr]
  have k0 := key 0
  rw [Int.sub_zero, Int.zero_mul] at k0
  rw [e1, e2, if_pos hr, k0, hr]
  refine ⟨by omega, by omega, fun h => absurd h (by simp)⟩
 rw [if_neg hr]
 by_cases hs : decide (n < 0) = decide (m < 0)
 ·have e1 : ro n m true = qn n m + 1 := by unfold ro; rw [if_neg hr, if_pos rfl, if_pos hs]
  have e2 : ro n m false = qn n m := by unfold ro; rw [if_neg hr, if_neg (by decide), if_pos hs]
  have k0 := key 0
  rw [Int.sub_zero, Int.zero_mul] at k0
  have hs' : n < 0 ↔ m < 0 := by simpa using hs
  rw [e1, e2, k0]
  refine ⟨by omega, by omega, fun _ => ?_⟩
  rcases Int.lt_or_le n 0 with h | h
  ·have := h3.2 (by omega)
   rw [sg_neg (by omega), sg_neg (hs'.1 h)]
  have := h3.1 h
  rw [sg_pos (by omega), sg_pos (by have : ¬ m < 0 := fun g => by have := hs'.2 g; omega
                                    omega)]
 have e1 : ro n m true = qn n m := by unfold ro; rw [if_neg hr, if_pos rfl, if_neg hs]
 have e2 : ro n m false = qn n m - 1 := by unfold ro; rw [if_neg hr, if_neg (by decide), if_neg hs]
 have k1 := key 1
 rw [Int.one_mul] at k1
 have hs' : ¬ (n < 0 ↔ m < 0) := by simpa using hs
 rw [e1, e2, k1]
 rcases Int.lt_or_le n 0 with h | h
 ·have := h3.2 (by omega)
  have hm' : ¬ m < 0 := fun g => hs' ⟨fun _ => g, fun _ => h⟩
  refine ⟨by omega, by omega, fun _ => ?_⟩
  rw [sg_pos (by omega), sg_pos (by omega)]
 have := h3.1 h
 have hm' : m < 0 := by
  refine Classical.byContradiction fun g => hs' ⟨fun h' => absurd h' (by omega), fun h' => absurd h' g⟩
 refine ⟨by omega, by omega, fun _ => ?_⟩
 rw [sg_neg (by omega), sg_neg (by omega)]
end Go.Proofs.YtikencoikigllaaDoor.PurePRa
namespace Go.Proofs.YtikencoikigllaaDoor.PurePRa
set_option linter.unusedVariables false
set_option linter.unusedSimpArgs false
open Go.RowKit Go.Proofs.YtikencoikigllaaDoorW.PrintWords Go.Proofs.YtikencoikigllaaDoorW.PrintLast Go.Proofs.YtikencoikigllaaDoorW.PrintMore Go.Proofs.YtikencoikigllaaDoor.PRa Go.Proofs.YtikencoikigllaaDoor Go.Proofs.YtikencoikigllaaDoor.Mine Big
theorem sg_le_zero {n : Int} (h : n ≤ 0) : sg n ≤ 0 := by
 rcases Int.lt_trichotomy n 0 with g | g | g
 ·rw [sg_neg g]; omega
 ·rw [sg_zero g]; omega
 omega
theorem fl_math (n : Int) {d : Nat} (hd : d ≠ 0) : ro n d true - ro n d false = (if rn n d = 0 then 0 else 1) ∧ ro n d false * d ≤ n ∧ n < (ro n d false + 1) * d ∧ (rn n d = 0 ↔ n = ro n d false * d) := by
 have hm : (d : Int) ≠ 0 := by omega
 obtain ⟨h1, h2, h3⟩ := near_math n hm
 have hp : (0 : Int) < d := by omega
 have h4 : 0 ≤ n - ro n d false * d := by
  by_cases h : n - ro n d false * d = 0
  ·omega
  have := h3 h
  rw [sg_pos hp] at this
  rcases Int.lt_trichotomy (n - ro n d false * d) 0 with g | g | g
  ·rw [sg_neg g] at this; omega
  ·omega
  omega
 refine ⟨h1, by omega, by rw [Int.add_mul, Int.one_mul]; omega, ?_⟩
 have hq := qr_eq n hm
 have hl := rn_lt n hm
 constructor
 ·intro hr
  have e : ro n d false = qn n d := by unfold ro; rw [if_pos hr]
  rw [e]
  omega
 intro hx
 refine Classical.byContradiction fun hr => ?_
 unfold ro at hx
 rw [if_neg hr, if_neg (by decide)] at hx
 split at hx
 ·omega
 rw [Int.sub_mul, Int.one_mul] at hx
 omega
theorem den_one (n : Int) {d : Nat} (hd : d ≠ 0) : ((mkRat n d).den = 1 ↔ rn n d = 0) ∧ ((mkRat n d).den = 1 → (mkRat n d).num = ro n d false) := by
 obtain ⟨_, m2, m3, m4⟩ := fl_math n hd
 have hk := mkRat_num (n := n) hd
 have hp : (0 : Int) < d := by omega
 have fwd : (mkRat n d).den = 1 → (mkRat n d).num = ro n d false := by
  intro h
  rw [h] at hk
  generalize ro n d false = X at *
  generalize (mkRat n d).num = m at *
  have hn : n = m * d := by rw [← hk]; simp
  rw [hn] at m2 m3
  have a1 := Int.le_of_mul_le_mul_right m2 hp
  have a2 := Int.lt_of_mul_lt_mul_right m3 (Int.le_of_lt hp)
  omega
 refine ⟨⟨fun h => ?_, fun h => ?_⟩, fwd⟩
 ·rw [m4, ← fwd h]
  rw [h] at hk
  rw [← hk]; simp
 have hn := m4.1 h
 generalize ro n d false = X at *
 have hr := (mkRat n d).reduced
 generalize (mkRat n d).num = m at *
 generalize (mkRat n d).den = e at *
 have hm : m = X * e := by
  have : X * e * d = m * d := by rw [← hk, hn, Int.mul_assoc, Int.mul_assoc, Int.mul_comm (e : Int)]
  exact (Int.mul_eq_mul_right_iff (by omega)).1 this |>.symm
 have hb : m.natAbs = X.natAbs * e := by rw [hm, Int.natAbs_mul, Int.natAbs_natCast]
 unfold Nat.Coprime at hr
 rw [hb, Nat.gcd_mul_left_left] at hr
 exact hr
theorem one_B : (1 : Int) < B1024 := by
 obtain ⟨v, o, _, N1, l1⟩ := AN.one
 have := (len_big N1).1 (by omega)
 simpa using this
theorem Whole_ev {x : Int} {u : Bool} {q : List Int} (h : Num 18446744073709551616 x u q) (hl : q.length ≤ 1025) :
  ∃ z, Ev (fun k => ratio_Whole.f k u q) z ∧ ∃ c r, Arg c r z.1 z.2.1 z.2.2.1 ∧ (z.2.2.2 = 5 ∨ z.2.2.2 = 0 ∧ c = 0 ∧ r = mkRat x 1) := by
 obtain ⟨v, o, ⟨K1, e1⟩, N1, l1⟩ := AN.one
 obtain ⟨K2, e2⟩ := (AN.of N1 l1 (by omega)).sign (by omega)
 obtain ⟨K3, e3⟩ := long_num h (by omega) u
 obtain ⟨K4, e4⟩ := long_num N1 (by omega) v
 obtain ⟨z, ⟨K5, e5⟩, R⟩ := out_res (FA_int x (L := 1025) h hl N1 l1 (by omega) (by omega)) (by omega)
 have s1 : sg 1 = 1 := sg_pos (by omega)
 have key : ∀ k, K1 + K2 + K3 + K4 + K5 + 1 ≤ k → ratio_Whole.f k u q = some (if B1024 ≤ (x.natAbs : Int) then (false, [], [], 5) else z) := by
  intro k hk
  obtain ⟨k, rfl⟩ : ∃ j, k = j + 1 := ⟨k - 1, by omega⟩
  have g1 : whole_Of.f (k + 1) 1 = _ := e1 _ (by omega)
  have g2 : whole_Sign.f (k + 1) v o = _ := e2 _ (by omega)
  have g2' : whole_Sign.f k v o = _ := e2 _ (by omega)
  have g3 : ratio_number_long.f (k + 1) u q = _ := e3 _ (by omega)
  have g4 : ratio_number_long.f (k + 1) v o = _ := e4 _ (by omega)
  have g5 : ratio_fraction_out.f k u q v o = _ := e5 _ (by omega)
  have n4 : ¬ B1024 ≤ ((1 : Int).natAbs : Int) := by have := one_B; simp; omega
  rw [decide_eq_false n4] at g4
  rw [s1] at g2 g2'
  rw [ratio_Whole.f, g1, Option.bind_some, ratio_Of.f, g2, Option.bind_some, if_neg (by decide), g3, Option.bind_some]
  by_cases hx : B1024 ≤ (x.natAbs : Int)
  ·rw [decide_eq_true hx, if_pos rfl, ratio_Of.j0, if_pos rfl, if_pos hx]
   rfl
  rw [decide_eq_false hx, if_neg (by decide), g4, Option.bind_some, ratio_Of.j0, if_neg (by decide), g2', Option.bind_some, if_neg (by decide), g5, if_neg hx]
  rfl
 refine ⟨_, ⟨_, key⟩, ?_⟩
 have nil : ∃ c r, Arg c r false [] [] := Arg.mk' false [] [] (by simp) (by simp) (fun _ h => absurd h (by simp)) (fun _ h => absurd h (by simp))
 by_cases hx : B1024 ≤ (x.natAbs : Int)
 ·rw [if_pos hx]
  obtain ⟨c, r, A⟩ := nil
  exact ⟨c, r, A, .inl rfl⟩
 rw [if_neg hx]
 rcases R with ⟨h, _⟩ | ⟨_, ⟨_, rfl⟩ | ⟨g, e, t, Q⟩⟩
 ·exact absurd rfl h
 ·obtain ⟨c, r, A⟩ := nil
  exact ⟨c, r, A, .inl rfl⟩
 exact ⟨0, mkRat x 1, Arg.of Q (by omega) g, .inr ⟨e, rfl, rfl⟩⟩
section
variable {n : Int} {d : Nat} {s : Bool} {l p : List Int}
theorem Floor_arg (hm : Ev (fun k => ratio_made.f k s l p) (s, l, false, p, 0)) (A : AN 1024 n s l) (D : AN 1024 (d : Int) false p) (hd : d ≠ 0) : ∃ u q, Ev (fun k => ratio_Floor.f k s l p) (u, q, 0) ∧ Num 18446744073709551616 (ro n d false) u q ∧ q.length ≤ 1025 := by
 obtain ⟨K1, e1⟩ := hm
 obtain ⟨u, q, ⟨K2, e2⟩, N, l2⟩ := A.rounded D (by omega) (by omega) (by omega) false
 refine ⟨u, q, ⟨K1 + K2, fun k hk => ?_⟩, N, l2⟩
 have g1 : ratio_made.f k s l p = _ := e1 k (by omega)
 have g2 : whole_rounded.f k s l false p false = _ := e2 k (by omega)
 show ratio_Floor.f k s l p = _
 rw [ratio_Floor.f, g1, Option.bind_some, if_pos (by exact rfl), whole_Floor.f, g2, Option.bind_some, Option.bind_some]
theorem Ceil_arg (hm : Ev (fun k => ratio_made.f k s l p) (s, l, false, p, 0)) (A : AN 1024 n s l) (D : AN 1024 (d : Int) false p) (hd : d ≠ 0) : ∃ u q, Ev (fun k => ratio_Ceil.f k s l p) (u, q, 0) ∧ Num 18446744073709551616 (ro n d true) u q ∧ q.length ≤ 1025 := by
 obtain ⟨K1, e1⟩ := hm
 obtain ⟨u, q, ⟨K2, e2⟩, N, l2⟩ := A.rounded D (by omega) (by omega) (by omega) true
 refine ⟨u, q, ⟨K1 + K2, fun k hk => ?_⟩, N, l2⟩
 have g1 : ratio_made.f k s l p = _ := e1 k (by omega)
 have g2 : whole_rounded.f k s l false p true = _ := e2 k (by omega)
 show ratio_Ceil.f k s l p = _
 rw [ratio_Ceil.f, g1, Option.bind_some, if_pos (by exact rfl), whole_Ceil.f, g2, Option.bind_some, Option.bind_some]
theorem Int_arg (hm : Ev (fun k => ratio_made.f k s l p) (s, l, false, p, 0)) (A : AN 1024 n s l) (D : AN 1024 (d : Int) false p) (hd : d ≠ 0) : ∃ z, Ev (fun k => ratio_Int.f k s l p) z ∧ (z.2.2 = true ↔ (mkRat n d).den = 1) ∧ (z.2.2 = true → Num 18446744073709551616 (mkRat n d).num z.1 z.2.1 ∧ z.2.1.length ≤ 1024) := by
 obtain ⟨K1, e1⟩ := hm
 obtain ⟨a, b, c, e, ⟨K2, e2⟩, Q⟩ := fr_low_ev (L := 1024) (r := mkRat n d) ⟨n, d, A, D, hd, rfl⟩ (by omega)
 obtain ⟨v, o, ⟨K3, e3⟩, N1, l1⟩ := AN.one
 obtain ⟨K4, e4⟩ := (AN.of Q.d Q.ld (by omega)).cmp (AN.of N1 l1 (by omega)) (by omega) (by omega)
 refine ⟨if sg (((mkRat n d).den : Int) - 1) = 0 then (a, b, true) else (false, [], false), ⟨K1 + K2 + K3 + K4, fun k hk => ?_⟩, ?_⟩
 ·have g1 : ratio_made.f k s l p = _ := e1 k (by omega)
  have g2 : ratio_fraction_low.f k s l false p = _ := e2 k (by omega)
  have g3 : whole_Of.f k 1 = _ := e3 k (by omega)
  have g4 : whole_Cmp.f k c e v o = _ := e4 k (by omega)
  show ratio_Int.f k s l p = _
  rw [ratio_Int.f, g1, Option.bind_some, if_pos (by exact rfl), g2, Option.bind_some, g3, Option.bind_some, g4, Option.bind_some]
  split <;> rfl
 have hs := sg_eq_zero (((mkRat n d).den : Int) - 1)
 by_cases h : sg (((mkRat n d).den : Int) - 1) = 0
 ·rw [if_pos h]
  have := hs.1 h
  exact ⟨⟨fun _ => by omega, fun _ => rfl⟩, fun _ => ⟨Q.n, Q.ln⟩⟩
 rw [if_neg h]
 exact ⟨⟨fun g => absurd g (by decide), fun g => absurd (hs.2 (by omega)) h⟩, fun g => absurd g (by decide)⟩
end
end Go.Proofs.YtikencoikigllaaDoor.PurePRa
namespace Go.Proofs.YtikencoikigllaaDoor.Pure
open Go.RowKit Go.Proofs.YtikencoikigllaaDoorW.PrintWords Go.Proofs.YtikencoikigllaaDoorW.PrintLast Go.Proofs.YtikencoikigllaaDoorW.PrintMore Go.Proofs.YtikencoikigllaaDoor.PRa Go.Proofs.YtikencoikigllaaDoor Go.Proofs.YtikencoikigllaaDoor.Mine Big PurePRa
theorem ratioBetween_pure (a : Bool) (x1 x2 : List Int) (h1 : x1.length ≤ 1048576) (h2 : x2.length ≤ 1048576) (w1 : ∀ z ∈ x1, (Lit.int .u64 z).wf = true) (w2 : ∀ z ∈ x2, (Lit.int .u64 z).wf = true) : ∃ k, PRa.tribunallaw03_RatioBetween.f k a x1 x2 = some true := by
 obtain ⟨c, r, A⟩ := Arg.mk' a x1 x2 h1 h2 (dig_of_wf w1) (dig_of_wf w2)
 obtain ⟨K0, e0⟩ := alive_ev
 by_cases hc : c = 0
 ·subst hc
  obtain ⟨n, d, AN1, AN2, hd, rfl⟩ := A.fr rfl
  have hm := A.made
  rw [if_pos rfl] at hm
  obtain ⟨u, q, ⟨K1, e1⟩, N1, l1⟩ := Floor_arg hm AN1 AN2 hd
  obtain ⟨v, p, ⟨K2, e2⟩, N2, l2⟩ := Ceil_arg hm AN1 AN2 hd
  obtain ⟨z, ⟨K3, e3⟩, z1, z2⟩ := Int_arg hm AN1 AN2 hd
  obtain ⟨m1, m2, m3, m4⟩ := fl_math n hd
  obtain ⟨d1, d2⟩ := den_one n hd
  obtain ⟨lo, ⟨K4, e4⟩, cl, rl, B4, hlo⟩ := Whole_ev N1 l1
  obtain ⟨hi, ⟨K5, e5⟩, ch, rh, B5, hhi⟩ := Whole_ev N2 l2
  have F1 := AN.of N1 l1 (by omega)
  have F2 := AN.of N2 l2 (by omega)
  obtain ⟨du, dq, ⟨K6, e6⟩, N6, l6⟩ := F2.sub F1 (by omega) (by omega)
  have F6 := AN.of (L := 1026) N6 (by omega) (by omega)
  obtain ⟨o1, p1, ⟨K7, e7⟩, M1, lm1⟩ := AN.one
  obtain ⟨o0, p0, ⟨K8, e8⟩, M0, lm0⟩ := AN.zero
  obtain ⟨K9, e9⟩ := F6.cmp (AN.of M1 lm1 (by omega)) (by omega) (by omega)
  obtain ⟨K10, e10⟩ := F6.cmp (AN.of M0 lm0 (by omega)) (by omega) (by omega)
  obtain ⟨K11, e11⟩ : ∃ K, ∀ k, K ≤ k → z.2.2 = true → whole_Cmp.f k z.1 z.2.1 u q = some 0 := by
   by_cases h : z.2.2 = true
   ·obtain ⟨Nz, lz⟩ := z2 h
    obtain ⟨K, e⟩ := (AN.of Nz lz (by omega)).cmp F1 (by omega) (by omega)
    rw [d2 (z1.1 h), Int.sub_self, sg_zero rfl] at e
    exact ⟨K, fun k hk _ => e k hk⟩
   exact ⟨0, fun _ _ g => absurd g h⟩
  obtain ⟨K12, e12⟩ := Cmp_ev B4 A
  obtain ⟨K13, e13⟩ := Cmp_ev A B5
  refine ⟨K0 + K1 + K2 + K3 + K4 + K5 + K6 + K7 + K8 + K9 + K10 + K11 + K12 + K13, ?_⟩
  obtain ⟨k, hk⟩ : ∃ k, k = K0 + K1 + K2 + K3 + K4 + K5 + K6 + K7 + K8 + K9 + K10 + K11 + K12 + K13 := ⟨_, rfl⟩
  rw [← hk]
  have g0 : tribunallaw03_alive.f k = _ := e0 k (by omega)
  have g1 : ratio_Floor.f k a x1 x2 = _ := e1 k (by omega)
  have g2 : ratio_Ceil.f k a x1 x2 = _ := e2 k (by omega)
  have g3 : ratio_Int.f k a x1 x2 = _ := e3 k (by omega)
  have g4 : ratio_Whole.f k u q = _ := e4 k (by omega)
  have g5 : ratio_Whole.f k v p = _ := e5 k (by omega)
  have g6 : whole_Sub.f k v p u q = _ := e6 k (by omega)
  have g7 : whole_Of.f k 1 = _ := e7 k (by omega)
  have g8 : whole_Of.f k 0 = _ := e8 k (by omega)
  have g9 : whole_Cmp.f k du dq o1 p1 = _ := e9 k (by omega)
  have g10 : whole_Cmp.f k du dq o0 p0 = _ := e10 k (by omega)
  have g11 := e11 k (by omega)
  have g12 : ratio_Cmp.f k lo.1 lo.2.1 lo.2.2.1 a x1 x2 = _ := e12 k (by omega)
  have g13 : ratio_Cmp.f k a x1 x2 hi.1 hi.2.1 hi.2.2.1 = _ := e13 k (by omega)
  have n0 : lo.2.2.2 = 0 ∨ lo.2.2.2 = 5 := hlo.elim .inr fun h => .inl h.1
  have n1 : hi.2.2.2 = 0 ∨ hi.2.2.2 = 5 := hhi.elim .inr fun h => .inl h.1
  have t0 : lo.2.2.2 = 0 → two cl 0 = 0 ∧ rsg (rl - mkRat n d) ≤ 0 := by
   intro h
   rcases hlo with g | ⟨_, rfl, rfl⟩
   ·rw [h] at g; exact absurd g (by decide)
   refine ⟨rfl, ?_⟩
   rw [sub_mkRat _ _ (by decide) hd, rsg_mkRat _ (Nat.mul_ne_zero (by decide) hd)]
   exact sg_le_zero (by simp; omega)
  have t1 : hi.2.2.2 = 0 → two 0 ch = 0 ∧ rsg (mkRat n d - rh) ≤ 0 := by
   intro h
   rcases hhi with g | ⟨_, rfl, rfl⟩
   ·rw [h] at g; exact absurd g (by decide)
   refine ⟨rfl, ?_⟩
   rw [sub_mkRat _ _ hd (by decide), rsg_mkRat _ (Nat.mul_ne_zero hd (by decide))]
   refine sg_le_zero ?_
   have : n ≤ ro n d true * d := by
    by_cases hr : rn n d = 0
    ·rw [if_pos hr] at m1
     have e : ro n d true = ro n d false := by omega
     have := m4.1 hr
     rw [e]; omega
    rw [if_neg hr] at m1
    have e : ro n d true = ro n d false + 1 := by omega
    rw [e]; omega
   simp
   omega
  have tl : ((ratio_Cmp.f k lo.1 lo.2.1 lo.2.2.1 a x1 x2).bind fun c => (ratio_Cmp.f k a x1 x2 hi.1 hi.2.1 hi.2.2.1).bind fun e =>
    if lo.2.2.2 = 0 then (if c.2 = 0 then (if c.1 ≤ 0 then (if hi.2.2.2 = 0 then (if e.2 = 0 then (if e.1 ≤ 0 then ((tribunallaw03_alive.f k).bind fun t9 => some t9) else none) else none) else ((tribunallaw03_alive.f k).bind fun t9 => some t9)) else none) else none)
    else (if hi.2.2.2 = 0 then (if e.2 = 0 then (if e.1 ≤ 0 then ((tribunallaw03_alive.f k).bind fun t9 => some t9) else none) else none) else ((tribunallaw03_alive.f k).bind fun t9 => some t9))) = some true := by
   rw [g12, Option.bind_some, g13, Option.bind_some, g0, Option.bind_some]
   have tb : (if hi.2.2.2 = 0 then (if two 0 ch = 0 then (if (if two 0 ch = 0 then rsg (mkRat n d - rh) else 0) ≤ 0 then some true else none) else none) else some true) = some true := by
    by_cases h : hi.2.2.2 = 0
    ·rw [if_pos h, if_pos (t1 h).1, if_pos (t1 h).1, if_pos (t1 h).2]
    rw [if_neg h]
   dsimp only
   rw [tb]
   by_cases h : lo.2.2.2 = 0
   ·rw [if_pos h, if_pos (t0 h).1, if_pos (t0 h).1, if_pos (t0 h).2]
   rw [if_neg h]
  show tribunallaw03_RatioBetween.f k a x1 x2 = _
  rw [tribunallaw03_RatioBetween.f, g1, Option.bind_some, g2, Option.bind_some, if_pos (by exact rfl), g3, Option.bind_some, g4, Option.bind_some, g5, Option.bind_some]
  rw [noneIf_ok _ (fun h => h.elim (fun h => h rfl) fun h => h.elim (fun h => n0.elim h.1 h.2) fun h => n1.elim h.1 h.2), g6, Option.bind_some]
  by_cases ok : z.2.2 = true
  ·rw [if_pos ok, if_pos (by exact rfl), g8, Option.bind_some, g10, Option.bind_some, if_pos, g11 ok, Option.bind_some, if_pos rfl]
   ·exact tl
   have := d1.1 (z1.1 ok)
   rw [if_pos this] at m1
   rw [m1]
   exact sg_zero rfl
  rw [if_neg ok, if_pos (by exact rfl), g7, Option.bind_some, g9, Option.bind_some, if_pos]
  ·exact tl
  have : ¬ rn n d = 0 := fun h => ok (z1.2 (d1.2 h))
  rw [if_neg this] at m1
  rw [m1]
  exact sg_zero rfl
 obtain ⟨K1, e1⟩ := A.made
 refine ⟨K0 + K1, ?_⟩
 have g0 : tribunallaw03_alive.f (K0 + K1) = _ := e0 _ (by omega)
 have g1 : ratio_made.f (K0 + K1) a x1 x2 = _ := e1 _ (by omega)
 rw [if_neg hc] at g1
 show tribunallaw03_RatioBetween.f (K0 + K1) a x1 x2 = _
 rw [tribunallaw03_RatioBetween.f, ratio_Floor.f, ratio_Ceil.f, g1, Option.bind_some, Option.bind_some]
 dsimp only
 rw [if_neg hc, if_neg hc, Option.bind_some, Option.bind_some]
 dsimp only
 rw [if_neg hc, if_pos rfl]
 rcases A.is with h | h | h
 ·exact absurd h hc
 ·rw [if_neg (by omega), if_pos h, g0, Option.bind_some]
 rw [if_pos h, g0, Option.bind_some]
end Go.Proofs.YtikencoikigllaaDoor.Pure
