/- What the card rests on, part 7: words of the walk, the functions in Lean and that the code comes to them. No condition beyond those that each theorem names. -/
import Derived.OpenShut
import Derived.Test.YtodhkpdcpneeeaaDoorCf6
set_option maxHeartbeats 8000000
set_option maxRecDepth 100000
namespace Go.Proofs.YtodhkpdcpneeeaaDoor.Big
structure Num (B n : Int) (s : Bool) (l : List Int) : Prop where
  rep : Rep B (n.natAbs : Int) l
  sign : s = decide (n < 0)
theorem Rep.pos_iff {B n : Int} (hB : 0 < B) {a : List Int} (ha : Rep B n a) : 0 < a.length ↔ 0 < n := by
  have h := ha.nil_iff hB
  have h1 := ha.nonneg hB
  rw [List.length_pos_iff, Ne, h]
  omega
theorem Num.of_rep {B v : Int} (hB : 0 < B) {l : List Int} (h : Rep B v l) (b : Bool) : Num B (if b then -v else v) (b && decide (0 < l.length)) l := by
  have h1 := h.nonneg hB
  have h2 := h.pos_iff hB
  refine ⟨?_, ?_⟩
  · have e : (((if b then -v else v) : Int).natAbs : Int) = v := by cases b <;> simp <;> omega
    rw [e]; exact h
  · cases b
    · simp; omega
    · simp only [Bool.true_and, if_true]
      by_cases h3 : 0 < l.length
      · have := h2.1 h3; simp [h3]; omega
      · have : ¬ 0 < v := fun g => h3 (h2.2 g)
        simp [h3]; omega
theorem Num.of_rep' {B v : Int} (hB : 0 < B) {l : List Int} (h : Rep B v l) (b : Bool) {n : Int} (hn : n = if b then -v else v) : Num B n (b && decide (0 < l.length)) l := hn ▸ Num.of_rep hB h b
def sg (n : Int) : Int := if n < 0 then -1 else if n = 0 then 0 else 1
theorem sg_neg {n : Int} (h : n < 0) : sg n = -1 := by unfold sg; rw [if_pos h]
theorem sg_zero {n : Int} (h : n = 0) : sg n = 0 := by unfold sg; rw [if_neg (by omega), if_pos h]
theorem sg_pos {n : Int} (h : 0 < n) : sg n = 1 := by unfold sg; rw [if_neg (by omega), if_neg (by omega)]
theorem lt_of_len {B : Int} (hB : 0 < B) {a b : List Int} (da : Dig B a) (db : Dig B b) (tb : Top b) (h : a.length < b.length) : val B a < val B b := by
  have h1 := val_lt hB da
  have hne : b ≠ [] := by intro e; rw [e] at h; simp at h
  have h2 := low hB db tb hne
  have h4 : B ^ a.length ≤ B ^ (b.length - 1) := by
    obtain ⟨c, hc⟩ := Nat.exists_eq_add_of_le (show a.length ≤ b.length - 1 by omega)
    rw [hc, Int.pow_add]
    have g1 := pow_pos hB a.length
    have g2 := pow_pos hB c
    have := Int.mul_le_mul_of_nonneg_left (show (1 : Int) ≤ B ^ c by omega) (Int.le_of_lt g1)
    omega
  omega
theorem lt_of_top {B : Int} (hB : 0 < B) {a b : List Int} (da : Dig B a) (db : Dig B b) (n : Nat) (ha : n < a.length) (hb : n < b.length) (h : a[n] < b[n]) : val B (a.take (n + 1)) < val B (b.take (n + 1)) := by
  rw [val_take_succ B a n ha, val_take_succ B b n hb]
  have h1 := val_lt hB (da.take n)
  rw [List.length_take, Nat.min_eq_left (by omega)] at h1
  have h2 := val_nonneg hB (db.take n)
  have h3 := Int.mul_le_mul_of_nonneg_right (show a[n] + 1 ≤ b[n] by omega) (Int.le_of_lt (pow_pos hB n))
  rw [Int.add_mul, Int.one_mul] at h3
  omega
end Go.Proofs.YtodhkpdcpneeeaaDoor.Big
namespace Go.Proofs.YtodhkpdcpneeeaaDoor.PurePAd
set_option linter.unusedVariables false
set_option linter.unusedSimpArgs false
open Go.RowKit Go.Proofs.YtodhkpdcpneeeaaDoorW.PrintWords Go.Proofs.YtodhkpdcpneeeaaDoorW.PrintLast Go.Proofs.YtodhkpdcpneeeaaDoorW.PrintMore Go.Proofs.YtodhkpdcpneeeaaDoor.PAd Go.Proofs.YtodhkpdcpneeeaaDoor Go.Proofs.YtodhkpdcpneeeaaDoor.Mine Big
theorem pow_le_pow {B : Int} (hB : 0 < B) {m n : Nat} (h : m ≤ n) : B ^ m ≤ B ^ n := by
  obtain ⟨c, rfl⟩ := Nat.exists_eq_add_of_le h
  rw [Int.pow_add]
  have g1 := pow_pos hB m
  have g2 := pow_pos hB c
  have := Int.mul_le_mul_of_nonneg_left (show (1 : Int) ≤ B ^ c by omega) (Int.le_of_lt g1)
  omega
theorem rep_len {B v : Int} (hB : 0 < B) {r : List Int} (h : Rep B v r) {m : Nat} (hv : v < B ^ m) : r.length ≤ m := by
  refine Classical.byContradiction fun hc => ?_
  have hne : r ≠ [] := by intro e; rw [e] at hc; simp at hc
  have h1 := h.low hB hne
  have h2 := pow_le_pow hB (show m ≤ r.length - 1 by omega)
  omega
theorem len4 {l d : List Int} {v : Int} (hl : Dig 18446744073709551616 l) (hv : val 18446744073709551616 l = v) (h : Rep 65536 v d) : d.length ≤ 4 * l.length := by
  by_cases hne : d = []
  · rw [hne]; simp
  · have h1 := h.low (by decide) hne
    have h2 := val_lt (B := 18446744073709551616) (by decide) hl
    rw [hv, pow4, ← Int.pow_mul] at h2
    refine Classical.byContradiction fun hc => ?_
    have h4 : (65536 : Int) ^ (4 * l.length) ≤ 65536 ^ (d.length - 1) := by
      obtain ⟨c, hc⟩ := Nat.exists_eq_add_of_le (show 4 * l.length ≤ d.length - 1 by omega)
      rw [hc, Int.pow_add]
      have g1 := pow_pos (B := 65536) (by decide) (4 * l.length)
      have g2 := pow_pos (B := 65536) (by decide) c
      have := Int.mul_le_mul_of_nonneg_left (show (1 : Int) ≤ 65536 ^ c by omega) (Int.le_of_lt g1)
      omega
    omega
theorem arg_num (s : Bool) (l : List Int) (hl : l.length ≤ 1048576) (hd : Dig 18446744073709551616 l) : ∃ (n : Int) (t : Bool) (r d : List Int),
    Ev (fun k => whole_of.f k s l) (r, t) ∧ Ev (fun k => tribunalref02_From.f k s l) (t, d) ∧ Num 18446744073709551616 n t r ∧ Num 65536 n t d ∧ r.length ≤ l.length ∧ d.length ≤ 4 * l.length := by
  obtain ⟨r, hr, hrl, hrd, hrt, hrv⟩ := of_ev s l hl hd
  obtain ⟨d, hdE, hdd, hdt, hdv⟩ := From_ev s l hl hd
  have R1 : Rep 18446744073709551616 (val 18446744073709551616 l) r := ⟨hrd, hrt, hrv⟩
  have R2 : Rep 65536 (val 18446744073709551616 l) d := ⟨hdd, hdt, hdv⟩
  have N1 := Num.of_rep (by decide) R1 s
  have N2 := Num.of_rep (by decide) R2 s
  have e : (s && decide (0 < d.length)) = (s && decide (0 < r.length)) := N2.sign.trans N1.sign.symm
  refine ⟨_, _, r, d, hr, ?_, N1, e ▸ N2, hrl, len4 hd rfl R2⟩
  rw [← e]; exact hdE
theorem signed_eq (m : List Int) (b : Bool) : whole_signed.f m b = some (m, b && decide (0 < m.length)) := by
  cases b
  · simp [whole_signed.f]
  · simp only [whole_signed.f, whole_amount_null.f, Option.bind_some, if_true]
    congr 2
    cases m <;> simp <;> omega
theorem awake_ev : Ev (fun k => tribunallaw02_awake.f k) true := Ev.of (fun k => tribunallaw02_awake.mono k) (k := 40) (by kernel_rfl)
theorem dig_of_wf {l : List Int} (h : ∀ z ∈ l, (Lit.int .u64 z).wf = true) : Dig 18446744073709551616 l := fun z hz => by
  have := Go.bounds_u64 (h z hz)
  omega
theorem whole_amount_cmp_l0 (a b : List Int) (hl : a.length ≤ 8388608) (hab : a.length = b.length) (da : Dig 18446744073709551616 a) (db : Dig 18446744073709551616 b) : ∀ (n k : Nat) (i : Int), n ≤ a.length → n < k → i = (n : Int) - 1 → whole_amount_cmp.l0 k a b i = some (sg (val 18446744073709551616 (a.take n) - val 18446744073709551616 (b.take n))) := by
  intro n
  induction n with
  | zero =>
    intro k i _ hk hi
    obtain ⟨k, rfl⟩ : ∃ j, k = j + 1 := ⟨k - 1, by omega⟩
    rw [whole_amount_cmp.l0, if_neg (by omega), sg_zero (by simp)]
  | succ n ih =>
    intro k i hn hk hi
    obtain ⟨k, rfl⟩ : ∃ j, k = j + 1 := ⟨k - 1, by omega⟩
    have hi' : i = (n : Int) := by omega
    subst hi'
    have hna : n < a.length := by omega
    have hnb : n < b.length := by omega
    rw [whole_amount_cmp.l0, if_pos (by omega), if_pos (by omega), if_pos (by omega), if_pos (by omega), rd_nat a n hna, rd_nat b n hnb]
    rcases Int.lt_trichotomy a[n] b[n] with h | h | h
    · have := lt_of_top (by decide) da db n hna hnb h
      rw [if_neg (by omega), if_pos h]
      rw [sg_neg (by omega)]
    · rw [if_pos h]
      rw [w64 _ (by omega), ih k _ (by omega) (by omega) rfl, val_take_succ 18446744073709551616 a n hna, val_take_succ 18446744073709551616 b n hnb, h]
      congr 2
      omega
    · have := lt_of_top (by decide) db da n hnb hna h
      rw [if_neg (by omega), if_neg (by omega)]
      rw [sg_pos (by omega)]
theorem whole_amount_cmp_ev (a b : List Int) (ha : a.length ≤ 8388608) (hb : b.length ≤ 8388608) (da : Dig 18446744073709551616 a) (db : Dig 18446744073709551616 b) (ta : Top a) (tb : Top b) : Ev (fun k => whole_amount_cmp.f k a b) (sg (val 18446744073709551616 a - val 18446744073709551616 b)) := by
  refine ⟨a.length + 1, fun k hk => ?_⟩
  show whole_amount_cmp.f k a b = _
  rw [whole_amount_cmp.f]
  rcases Nat.lt_trichotomy a.length b.length with h | h | h
  · have := lt_of_len (by decide) da db tb h
    rw [if_neg (by omega), if_pos (by omega), sg_neg (by omega)]
  · rw [if_pos (by omega), w64 _ (by omega), whole_amount_cmp_l0 a b ha h da db a.length k _ (Nat.le_refl _) (by omega) rfl, List.take_length, h, List.take_length]
  · have := lt_of_len (by decide) db da ta h
    rw [if_neg (by omega), if_neg (by omega), sg_pos (by omega)]
theorem tribunalref02_cmpD_l0 (a b : List Int) (hl : a.length ≤ 8388608) (hab : a.length = b.length) (da : Dig 65536 a) (db : Dig 65536 b) : ∀ (n k : Nat) (i : Int), n ≤ a.length → n < k → i = (n : Int) - 1 → tribunalref02_cmpD.l0 k a b i = some (sg (val 65536 (a.take n) - val 65536 (b.take n))) := by
  intro n
  induction n with
  | zero =>
    intro k i _ hk hi
    obtain ⟨k, rfl⟩ : ∃ j, k = j + 1 := ⟨k - 1, by omega⟩
    rw [tribunalref02_cmpD.l0, if_neg (by omega), sg_zero (by simp)]
  | succ n ih =>
    intro k i hn hk hi
    obtain ⟨k, rfl⟩ : ∃ j, k = j + 1 := ⟨k - 1, by omega⟩
    have hi' : i = (n : Int) := by omega
    subst hi'
    have hna : n < a.length := by omega
    have hnb : n < b.length := by omega
    rw [tribunalref02_cmpD.l0, if_pos (by omega), if_pos (by omega), if_pos (by omega), if_pos (by omega), rd_nat a n hna, rd_nat b n hnb]
    rcases Int.lt_trichotomy a[n] b[n] with h | h | h
    · have := lt_of_top (by decide) da db n hna hnb h
      rw [if_pos h]
      rw [sg_neg (by omega)]
    · rw [if_neg (by omega), if_neg (by omega)]
      rw [w64 _ (by omega), ih k _ (by omega) (by omega) rfl, val_take_succ 65536 a n hna, val_take_succ 65536 b n hnb, h]
      congr 2
      omega
    · have := lt_of_top (by decide) db da n hnb hna h
      rw [if_neg (by omega), if_pos h]
      rw [sg_pos (by omega)]
theorem tribunalref02_cmpD_ev (a b : List Int) (ha : a.length ≤ 8388608) (hb : b.length ≤ 8388608) (da : Dig 65536 a) (db : Dig 65536 b) (ta : Top a) (tb : Top b) : Ev (fun k => tribunalref02_cmpD.f k a b) (sg (val 65536 a - val 65536 b)) := by
  refine ⟨a.length + 1, fun k hk => ?_⟩
  show tribunalref02_cmpD.f k a b = _
  rw [tribunalref02_cmpD.f]
  rcases Nat.lt_trichotomy a.length b.length with h | h | h
  · have := lt_of_len (by decide) da db tb h
    rw [if_neg (by omega), if_pos (by omega), sg_neg (by omega)]
  · rw [if_pos (by omega), w64 _ (by omega), tribunalref02_cmpD_l0 a b ha h da db a.length k _ (Nat.le_refl _) (by omega) rfl, List.take_length, h, List.take_length]
  · have := lt_of_len (by decide) db da ta h
    rw [if_neg (by omega), if_neg (by omega), sg_pos (by omega)]
theorem cmp_num {n m : Int} {s t : Bool} {a b : List Int} (ha : Num 18446744073709551616 n s a) (hb : Num 18446744073709551616 m t b) (la : a.length ≤ 8388608) (lb : b.length ≤ 8388608) : Ev (fun k => whole_number_cmp.f k a s b t) (sg (n - m)) := by
  obtain ⟨K1, h1⟩ := whole_amount_cmp_ev a b la lb ha.rep.dig hb.rep.dig ha.rep.top hb.rep.top
  obtain ⟨K2, h2⟩ := whole_amount_cmp_ev b a lb la hb.rep.dig ha.rep.dig hb.rep.top ha.rep.top
  rw [ha.rep.val, hb.rep.val] at h1 h2
  refine ⟨max K1 K2 + 2, fun k hk => ?_⟩
  obtain ⟨k, rfl⟩ : ∃ j, k = j + 2 := ⟨k - 2, by omega⟩
  have g1 : whole_amount_cmp.f k a b = _ := h1 k (by omega)
  have g2 : whole_amount_cmp.f k b a = _ := h2 k (by omega)
  have e1 := ha.sign
  have e2 := hb.sign
  show whole_number_cmp.f (k + 1 + 1) a s b t = _
  rw [whole_number_cmp.f]
  cases s with
  | true =>
    have hn : n < 0 := of_decide_eq_true e1.symm
    cases t with
    | true =>
      have hm : m < 0 := of_decide_eq_true e2.symm
      rw [if_pos rfl, whole_number_cmp.j0, if_neg (by decide), if_pos rfl, whole_number_cmp.j1, if_neg (by decide), if_pos rfl, g2, Option.bind_some]
      congr 2; omega
    | false =>
      have hm : ¬ m < 0 := of_decide_eq_false e2.symm
      rw [if_pos rfl, whole_number_cmp.j0, if_pos (by decide), sg_neg (by omega)]
  | false =>
    have hn : ¬ n < 0 := of_decide_eq_false e1.symm
    cases t with
    | true =>
      have hm : m < 0 := of_decide_eq_true e2.symm
      rw [if_neg (by decide), whole_number_cmp.j0, if_neg (by decide), if_neg (by decide), whole_number_cmp.j1, if_pos rfl, sg_pos (by omega)]
    | false =>
      have hm : ¬ m < 0 := of_decide_eq_false e2.symm
      rw [if_neg (by decide), whole_number_cmp.j0, if_neg (by decide), if_neg (by decide), whole_number_cmp.j1, if_neg (by decide), if_neg (by decide), g1, Option.bind_some]
      congr 2; omega
theorem opposite_num {n : Int} {s : Bool} {a : List Int} (ha : Num 18446744073709551616 n s a) : ∃ u, whole_number_opposite.f a s = some (a, u) ∧ Num 18446744073709551616 (-n) u a := by
  have e1 := ha.sign
  refine ⟨_, ?_, Num.of_rep' (by decide) ha.rep (!s) (by cases s <;> simp at e1 ⊢ <;> omega)⟩
  rw [whole_number_opposite.f, signed_eq, Option.bind_some]
theorem getD_set_ne (l : List Int) (i t : Nat) (v : Int) (h : i ≠ t) : (l.set i v).getD t 0 = l.getD t 0 := by
  simp [List.getD_eq_getElem?_getD, List.getElem?_set_ne h]
theorem Make_ev (s : Bool) (l : List Int) (hl : l.length < 9223372036854775807) (hd : Dig 65536 l) : ∃ r, Ev (fun k => tribunalref02_Make.f k s l) (s && decide (0 < r.length), r) ∧ Dig 65536 r ∧ Top r ∧ val 65536 r = val 65536 l := by
  obtain ⟨r, ⟨K, hr⟩, h⟩ := tribunalref02_trim_ev (B := 65536) (l := l) hl hd
  refine ⟨r, ⟨K, fun k hk => ?_⟩, h⟩
  have hk' : tribunalref02_trim.f k l = some r := hr k hk
  show tribunalref02_Make.f k s l = _
  simp only [tribunalref02_Make.f, hk', Option.bind_some]
  cases s <;> simp
theorem Make_num {v : Int} {l : List Int} (b : Bool) (hl : l.length < 9223372036854775807) (hd : Dig 65536 l) (hv : val 65536 l = v) {n : Int} (hn : n = if b then -v else v) : ∃ u r, Ev (fun k => tribunalref02_Make.f k b l) (u, r) ∧ Num 65536 n u r := by
  obtain ⟨r, h, h1, h2, h3⟩ := Make_ev b l hl hd
  exact ⟨_, r, h, Num.of_rep' (by decide) ⟨h1, h2, h3.trans hv⟩ b hn⟩
theorem rcmp_num {n m : Int} {s t : Bool} {a b : List Int} (ha : Num 65536 n s a) (hb : Num 65536 m t b) (la : a.length ≤ 8388608) (lb : b.length ≤ 8388608) : Ev (fun k => tribunalref02_Cmp1.f k s a t b) (sg (n - m)) := by
  obtain ⟨K1, h1⟩ := tribunalref02_cmpD_ev a b la lb ha.rep.dig hb.rep.dig ha.rep.top hb.rep.top
  obtain ⟨K2, h2⟩ := tribunalref02_cmpD_ev b a lb la hb.rep.dig ha.rep.dig hb.rep.top ha.rep.top
  rw [ha.rep.val, hb.rep.val] at h1 h2
  refine ⟨max K1 K2, fun k hk => ?_⟩
  have g1 : tribunalref02_cmpD.f k a b = _ := h1 k (by omega)
  have g2 : tribunalref02_cmpD.f k b a = _ := h2 k (by omega)
  have e1 := ha.sign
  have e2 := hb.sign
  show tribunalref02_Cmp1.f k s a t b = _
  rw [tribunalref02_Cmp1.f]
  cases s with
  | true =>
    have hn : n < 0 := of_decide_eq_true e1.symm
    cases t with
    | true =>
      have hm : m < 0 := of_decide_eq_true e2.symm
      rw [if_neg (by decide), if_pos rfl, g2, Option.bind_some]
      congr 2; omega
    | false =>
      have hm : ¬ m < 0 := of_decide_eq_false e2.symm
      rw [if_pos (by decide), if_pos rfl, sg_neg (by omega)]
  | false =>
    have hn : ¬ n < 0 := of_decide_eq_false e1.symm
    cases t with
    | true =>
      have hm : m < 0 := of_decide_eq_true e2.symm
      rw [if_pos (by decide), if_neg (by decide), sg_pos (by omega)]
    | false =>
      have hm : ¬ m < 0 := of_decide_eq_false e2.symm
      rw [if_neg (by decide), if_neg (by decide), g1, Option.bind_some]
      congr 2; omega
theorem rminus_num {n : Int} {s : Bool} {a : List Int} (ha : Num 65536 n s a) (la : a.length ≤ 8388608) : ∃ u r, Ev (fun k => tribunalref02_Minus.f k s a) (u, r) ∧ Num 65536 (-n) u r := by
  have e1 := ha.sign
  obtain ⟨u, r, ⟨K, hr⟩, hN⟩ := Make_num (!s) (by omega) ha.rep.dig ha.rep.val (n := -n) (by cases s <;> simp at e1 ⊢ <;> omega)
  refine ⟨u, r, ⟨K, fun k hk => ?_⟩, hN⟩
  have g : tribunalref02_Make.f k (!s) a = _ := hr k hk
  show tribunalref02_Minus.f k s a = _
  rw [tribunalref02_Minus.f, g, Option.bind_some]
end Go.Proofs.YtodhkpdcpneeeaaDoor.PurePAd
namespace Go.Proofs.YtodhkpdcpneeeaaDoor.PurePAd
set_option linter.unusedVariables false
set_option linter.unusedSimpArgs false
open Go.RowKit Go.Proofs.YtodhkpdcpneeeaaDoorW.PrintWords Go.Proofs.YtodhkpdcpneeeaaDoorW.PrintLast Go.Proofs.YtodhkpdcpneeeaaDoorW.PrintMore Go.Proofs.YtodhkpdcpneeeaaDoor.PAd Go.Proofs.YtodhkpdcpneeeaaDoor Go.Proofs.YtodhkpdcpneeeaaDoor.Mine Big
theorem out_same {n : Int} {s t : Bool} {l d : List Int} (h : Num 18446744073709551616 n s l) (g : Num 65536 n t d) (hd : d.length ≤ 8388608) (hl : l.length ≤ 8388608) :
    whole_number_out.f l s = some (s, l) ∧ Ev (fun k => tribunalref02_To.f k t d) (s, l) := by
  obtain ⟨r, hr, h1, h2, h3, _⟩ := To_ev d t hd g.rep.dig g.rep.top
  have e : r = l := h.rep.uniq (by decide) ⟨h1, h2, h3.trans g.rep.val⟩ |>.symm
  have es : t = s := g.sign.trans h.sign.symm
  subst e; subst es
  refine ⟨?_, hr⟩
  rw [whole_number_out.f, api_Nat_uint64.f, if_pos (by omega), Option.bind_some]
theorem rep_one {v : Int} (h : 0 ≤ v ∧ v < 18446744073709551616) : ∃ r, Ev (fun k => whole_trimmed.f k [v]) r ∧ Rep 18446744073709551616 v r ∧ r.length ≤ 1 := by
  obtain ⟨r, hr, h1, h2, h3⟩ := whole_trimmed_ev (B := 18446744073709551616) (l := [v]) (by simp) (by rw [Dig.cons]; exact ⟨h, Dig.nil⟩)
  have R : Rep 18446744073709551616 v r := ⟨h1, h2, by rw [h3]; simp [val]⟩
  exact ⟨r, hr, R, rep_len (by decide) R (by omega)⟩
theorem rep_four {v : Int} (h : 0 ≤ v ∧ v < 18446744073709551616) (b : Bool) {n : Int} (hn : n = if b then -v else v) : ∃ u r, Ev (fun k => tribunalref02_Make.f k b [IntKind.u16.wrap v, IntKind.u16.wrap (v / 65536), IntKind.u16.wrap (v / 4294967296), IntKind.u16.wrap (v / 281474976710656)]) (u, r) ∧ Num 65536 n u r ∧ r.length ≤ 4 := by
  obtain ⟨hv4, hd4⟩ := limb4 v h
  obtain ⟨u, r, hr, hN⟩ := Make_num b (by simp) hd4 hv4 hn
  refine ⟨u, r, hr, hN, rep_len (by decide) hN.rep ?_⟩
  rw [← pow4]
  cases b <;> simp at hn <;> omega
theorem u64_neg {n : Int} (h : -9223372036854775808 ≤ n ∧ n < 0) : IntKind.u64.wrap (-(IntKind.u64.wrap n)) = -n := by
  simp only [IntKind.wrap_u64]; omega
theorem u64_pos {n : Int} (h : 0 ≤ n ∧ n ≤ 9223372036854775807) : IntKind.u64.wrap n = n := by
  simp only [IntKind.wrap_u64]; omega
theorem Small1_num {n : Int} (h : -9223372036854775808 ≤ n ∧ n ≤ 9223372036854775807) : ∃ u d, Ev (fun k => tribunalref02_Small1.f k n) (u, d) ∧ Num 65536 n u d ∧ d.length ≤ 4 := by
  by_cases h0 : n < 0
  · obtain ⟨u, r, ⟨K, hr⟩, hN⟩ := rep_four (v := -n) (by omega) true (n := n) (by simp)
    refine ⟨u, r, ⟨K, fun k hk => ?_⟩, hN⟩
    have g := hr k hk
    show tribunalref02_Small1.f k n = _
    rw [tribunalref02_Small1.f, if_pos h0, u64_neg (by omega)]
    replace g : tribunalref02_Make.f k true _ = _ := g
    rw [g, Option.bind_some]
  · obtain ⟨u, r, ⟨K, hr⟩, hN⟩ := rep_four (v := n) (by omega) false (n := n) (by simp)
    refine ⟨u, r, ⟨K, fun k hk => ?_⟩, hN⟩
    have g := hr k hk
    show tribunalref02_Small1.f k n = _
    rw [tribunalref02_Small1.f, if_neg h0, u64_pos (by omega)]
    replace g : tribunalref02_Make.f k false _ = _ := g
    rw [g, Option.bind_some]
theorem Of_ev {n : Int} (h : -9223372036854775808 ≤ n ∧ n ≤ 9223372036854775807) : ∃ s l, Ev (fun k => whole_Of.f k n) (s, l) ∧ Ev (fun k => tribunalref02_Of.f k n) (s, l) ∧ l.length ≤ 8388608 := by
  obtain ⟨u, d, ⟨K2, h2⟩, hN2, hd⟩ := Small1_num h
  by_cases h0 : n < 0
  · obtain ⟨r, ⟨K, hr⟩, hR, hl⟩ := rep_one (v := -n) (by omega)
    have hN := Num.of_rep' (by decide) hR true (n := n) (by rw [if_pos rfl, Int.neg_neg])
    obtain ⟨o1, ⟨K3, o2⟩⟩ := out_same hN hN2 (by omega) (by omega)
    refine ⟨(true && decide (0 < r.length)), r, ⟨K, fun k hk => ?_⟩, ⟨max K2 K3, fun k hk => ?_⟩, by omega⟩
    · have g : whole_trimmed.f k [-n] = some r := hr k hk
      show whole_Of.f k n = _
      rw [whole_Of.f, if_pos h0, u64_neg (by omega), g, Option.bind_some, signed_eq, Option.bind_some, o1, Option.bind_some]
    · have g : tribunalref02_Small1.f k n = _ := h2 k (by omega)
      have g2 : tribunalref02_To.f k u d = _ := o2 k (by omega)
      show tribunalref02_Of.f k n = _
      rw [tribunalref02_Of.f, g, Option.bind_some, g2, Option.bind_some]
  · obtain ⟨r, ⟨K, hr⟩, hR, hl⟩ := rep_one (v := n) (by omega)
    have hN := Num.of_rep' (by decide) hR false (n := n) (by rw [if_neg (by decide)])
    obtain ⟨o1, ⟨K3, o2⟩⟩ := out_same hN hN2 (by omega) (by omega)
    refine ⟨(false && decide (0 < r.length)), r, ⟨K, fun k hk => ?_⟩, ⟨max K2 K3, fun k hk => ?_⟩, by omega⟩
    · have g : whole_trimmed.f k [n] = some r := hr k hk
      show whole_Of.f k n = _
      rw [whole_Of.f, if_neg h0, u64_pos (by omega), g, Option.bind_some, signed_eq, Option.bind_some, o1, Option.bind_some]
    · have g : tribunalref02_Small1.f k n = _ := h2 k (by omega)
      have g2 : tribunalref02_To.f k u d = _ := o2 k (by omega)
      show tribunalref02_Of.f k n = _
      rw [tribunalref02_Of.f, g, Option.bind_some, g2, Option.bind_some]
def small (n : Int) : Int × Bool := if -9223372036854775808 ≤ n ∧ n ≤ 9223372036854775807 then (n, true) else (0, false)
theorem small_in {n : Int} (h : -9223372036854775808 ≤ n ∧ n ≤ 9223372036854775807) : small n = (n, true) := by unfold small; rw [if_pos h]
theorem small_out {n : Int} (h : ¬ (-9223372036854775808 ≤ n ∧ n ≤ 9223372036854775807)) : small n = (0, false) := by unfold small; rw [if_neg h]
theorem Small_num {n : Int} {s s1 : Bool} {l a : List Int} (h : Ev (fun k => whole_of.f k s l) (a, s1)) (N : Num 18446744073709551616 n s1 a) : Ev (fun k => whole_Small.f k s l) (small n) := by
  obtain ⟨K, hK⟩ := h
  refine ⟨K + 1, fun k hk => ?_⟩
  obtain ⟨k, rfl⟩ : ∃ j, k = j + 1 := ⟨k - 1, by omega⟩
  have g : whole_of.f (k + 1) s l = _ := hK (k + 1) (by omega)
  have e1 := N.sign
  have e2 := N.rep.nil_iff (by decide)
  show whole_Small.f (k + 1) s l = _
  rw [whole_Small.f, g, Option.bind_some, whole_amount_null.f, Option.bind_some]
  show (if ((a.length : Int) == 0) = true then _ else (if (a.length : Int) > 1 then _ else (if s1 = true then _ else _))) = _
  match a, N, e2 with
  | [], N, e2 =>
    have : n = 0 := by have := e2.1 rfl; omega
    rw [if_pos (by simp), small_in (by omega), this]
  | [x], N, e2 =>
    have hx : (n.natAbs : Int) = x := by have := N.rep.val; simp [val] at this; omega
    have hd := N.rep.dig.get 0 (by simp)
    have hr : rd [x] 0 = x := rfl
    rw [if_neg (by simp), if_neg (by simp)]
    cases s1 with
    | true =>
      have hn : n < 0 := of_decide_eq_true e1.symm
      rw [if_pos rfl, if_pos (by simp), whole_Small.j0, hr]
      by_cases hb : x ≤ 9223372036854775808
      · rw [if_pos (by simpa using hb), if_pos (by simp), small_in (by omega)]
        congr 2
        unfold wrap64; omega
      · rw [if_neg (by simpa using hb), if_pos rfl, small_out (by omega)]
    | false =>
      have hn : ¬ n < 0 := of_decide_eq_false e1.symm
      rw [if_neg (by simp), whole_Small.j0, hr, if_neg (by simp), if_neg (by simp), if_pos (by simp)]
      by_cases hb : x < 9223372036854775808
      · rw [if_pos hb, small_in (by omega), w64 x (by omega)]
        congr 2; omega
      · rw [if_neg hb, small_out (by omega)]
  | x :: y :: r, N, e2 =>
    rw [if_neg (by simp; omega), if_pos (by simp; omega), small_out]
    intro hc
    have h1 := N.rep.low (by decide) (by simp)
    have h2 := pow_le_pow (B := 18446744073709551616) (by decide) (show 1 ≤ (x :: y :: r).length - 1 by simp)
    omega
theorem Small_l0 (s : Bool) (D : List Int) (hD : D.length ≤ 4) (hd : Dig 65536 D) : ∀ (n k : Nat) (i x : Int), n ≤ D.length → n < k → i = (n : Int) - 1 → x = val 65536 (D.drop n) → tribunalref02_Small.l0 k x i s D = if s = true then some (wrap64 (IntKind.u64.wrap (-(val 65536 D))), true) else some (wrap64 (val 65536 D), true) := by
  intro n
  induction n with
  | zero =>
    intro k i x _ hk hi hx
    obtain ⟨k, rfl⟩ : ∃ j, k = j + 1 := ⟨k - 1, by omega⟩
    rw [tribunalref02_Small.l0, if_neg (by omega), hx, List.drop_zero]
  | succ n ih =>
    intro k i x hn hk hi hx
    obtain ⟨k, rfl⟩ : ∃ j, k = j + 1 := ⟨k - 1, by omega⟩
    have hi' : i = (n : Int) := by omega
    subst hi'
    have hnD : n < D.length := by omega
    have hdx := hd.get n hnD
    have h0 := val_nonneg (B := 65536) (by decide) (hd.drop (n + 1))
    have h1 := val_lt (B := 65536) (by decide) (hd.drop (n + 1))
    have h2 := pow_le_pow (B := 65536) (by decide) (show (D.drop (n + 1)).length ≤ 3 by simp; omega)
    rw [tribunalref02_Small.l0, if_pos (by omega), if_pos (by omega), if_pos (by omega), rd_nat D n hnD, or16 x D[n] (by omega) hdx, w64 _ (by omega)]
    refine ih k _ _ (by omega) (by omega) rfl ?_
    rw [hx, List.drop_eq_getElem_cons hnD]
    simp only [val]
    omega
theorem rSmall_num {n : Int} {s s1 : Bool} {l d : List Int} (h : Ev (fun k => tribunalref02_From.f k s l) (s1, d)) (N : Num 65536 n s1 d) (ld : d.length ≤ 8388608) : Ev (fun k => tribunalref02_Small.f k s l) (small n) := by
  obtain ⟨K, hK⟩ := h
  obtain ⟨u1, d1, ⟨K1, h1⟩, N1, l1⟩ := Small1_num (n := 9223372036854775807) (by omega)
  obtain ⟨u2, d2, ⟨K2, h2⟩, N2, l2⟩ := Small1_num (n := -9223372036854775808) (by omega)
  obtain ⟨K3, h3⟩ := rcmp_num N N1 ld (by omega)
  obtain ⟨K4, h4⟩ := rcmp_num N N2 ld (by omega)
  refine ⟨K + K1 + K2 + K3 + K4 + 8, fun k hk => ?_⟩
  obtain ⟨k, rfl⟩ : ∃ j, k = j + 1 := ⟨k - 1, by omega⟩
  have g : tribunalref02_From.f (k + 1) s l = _ := hK (k + 1) (by omega)
  have g1 : tribunalref02_Small1.f (k + 1) 9223372036854775807 = _ := h1 (k + 1) (by omega)
  have g2 : tribunalref02_Small1.f (k + 1) (-9223372036854775808) = _ := h2 (k + 1) (by omega)
  have g3 : tribunalref02_Cmp1.f (k + 1) s1 d u1 d1 = _ := h3 (k + 1) (by omega)
  have g4 : tribunalref02_Cmp1.f (k + 1) s1 d u2 d2 = _ := h4 (k + 1) (by omega)
  show tribunalref02_Small.f (k + 1) s l = _
  rw [tribunalref02_Small.f, g, Option.bind_some, g1, Option.bind_some, g3, Option.bind_some]
  by_cases c1 : 9223372036854775807 < n
  · rw [sg_pos (by omega), if_pos (by decide), tribunalref02_Small.j0, if_pos rfl, small_out (by omega)]
  · have c1' : ¬ sg (n - 9223372036854775807) > 0 := by unfold sg; split <;> (try split) <;> omega
    rw [if_neg c1', g2, Option.bind_some, g4, Option.bind_some]
    by_cases c2 : n < -9223372036854775808
    · rw [sg_neg (by omega), show decide ((-1 : Int) < 0) = true from by decide, tribunalref02_Small.j0, if_pos rfl, small_out (by omega)]
    · have c2' : decide (sg (n - -9223372036854775808) < 0) = false := decide_eq_false (by unfold sg; split <;> (try split) <;> omega)
      have hlen : d.length ≤ 4 := rep_len (by decide) N.rep (by rw [← pow4]; omega)
      have e1 := N.sign
      rw [c2', tribunalref02_Small.j0, if_neg (by decide), Small_l0 s1 d hlen N.rep.dig d.length k (wrap64 ((d.length : Int) - 1)) 0 (Nat.le_refl _) (by omega) (w64 ((d.length : Int) - 1) (by omega)) (by simp [val]), N.rep.val, small_in (by omega)]
      cases s1 with
      | true =>
        have hn : n < 0 := of_decide_eq_true e1.symm
        rw [if_pos rfl]
        congr 2
        simp only [IntKind.wrap_u64]
        unfold wrap64; omega
      | false =>
        have hn : ¬ n < 0 := of_decide_eq_false e1.symm
        rw [if_neg (by decide), w64 _ (by omega)]
        congr 2; omega
theorem norm_ev {n : Int} {s s1 : Bool} {l a d : List Int} (h : Ev (fun k => whole_of.f k s l) (a, s1)) (g : Ev (fun k => tribunalref02_From.f k s l) (s1, d)) (N : Num 18446744073709551616 n s1 a) (M : Num 65536 n s1 d) (la : a.length ≤ 8388608) (ld : d.length ≤ 8388608) :
    Ev (fun k => whole_Norm.f k s l) (s1, a) ∧ Ev (fun k => tribunalref02_Norm.f k s l) (s1, a) := by
  obtain ⟨o1, ⟨K3, o2⟩⟩ := out_same N M ld la
  obtain ⟨K1, h1⟩ := h
  obtain ⟨K2, h2⟩ := g
  refine ⟨⟨K1, fun k hk => ?_⟩, ⟨max K2 K3, fun k hk => ?_⟩⟩
  · have g1 : whole_of.f k s l = _ := h1 k hk
    show whole_Norm.f k s l = _
    rw [whole_Norm.f, g1, Option.bind_some, o1, Option.bind_some]
  · have g1 : tribunalref02_From.f k s l = _ := h2 k (by omega)
    have g2 : tribunalref02_To.f k s1 d = _ := o2 k (by omega)
    show tribunalref02_Norm.f k s l = _
    rw [tribunalref02_Norm.f, g1, Option.bind_some, g2, Option.bind_some]
theorem neg_ev {n : Int} {s s1 : Bool} {l a d : List Int} (h : Ev (fun k => whole_of.f k s l) (a, s1)) (g : Ev (fun k => tribunalref02_From.f k s l) (s1, d)) (N : Num 18446744073709551616 n s1 a) (M : Num 65536 n s1 d) (la : a.length ≤ 8388608) (ld : d.length ≤ 8388608) :
    ∃ u, Ev (fun k => whole_Neg.f k s l) (u, a) ∧ Ev (fun k => tribunalref02_Neg.f k s l) (u, a) := by
  obtain ⟨u, hu, N'⟩ := opposite_num N
  obtain ⟨v, e, ⟨K4, h4⟩, M'⟩ := rminus_num M ld
  have he : e.length ≤ d.length := by
    refine rep_len (by decide) M'.rep ?_
    have h1 := M.rep.lt (by decide)
    have h2 : ((-n).natAbs : Int) = n.natAbs := by omega
    rw [h2]; exact h1
  obtain ⟨o1, ⟨K3, o2⟩⟩ := out_same N' M' (by omega) la
  obtain ⟨K1, h1⟩ := h
  obtain ⟨K2, h2⟩ := g
  refine ⟨u, ⟨K1, fun k hk => ?_⟩, ⟨max K2 (max K3 K4), fun k hk => ?_⟩⟩
  · have g1 : whole_of.f k s l = _ := h1 k hk
    show whole_Neg.f k s l = _
    rw [whole_Neg.f, g1, Option.bind_some, hu, Option.bind_some, o1, Option.bind_some]
  · have g1 : tribunalref02_From.f k s l = _ := h2 k (by omega)
    have g2 : tribunalref02_Minus.f k s1 d = _ := h4 k (by omega)
    have g3 : tribunalref02_To.f k v e = _ := o2 k (by omega)
    show tribunalref02_Neg.f k s l = _
    rw [tribunalref02_Neg.f, g1, Option.bind_some, g2, Option.bind_some, g3, Option.bind_some]
theorem abs_ev {n : Int} {s s1 : Bool} {l a d : List Int} (h : Ev (fun k => whole_of.f k s l) (a, s1)) (g : Ev (fun k => tribunalref02_From.f k s l) (s1, d)) (N : Num 18446744073709551616 n s1 a) (M : Num 65536 n s1 d) (la : a.length ≤ 8388608) (ld : d.length ≤ 8388608) :
    Ev (fun k => whole_Abs.f k s l) (false, a) ∧ Ev (fun k => tribunalref02_Abs.f k s l) (false, a) := by
  have N' := Num.of_rep' (by decide) N.rep false (n := (n.natAbs : Int)) (by simp)
  obtain ⟨v, e, ⟨K4, h4⟩, M'⟩ := Make_num false (by omega) M.rep.dig M.rep.val (n := (n.natAbs : Int)) (by simp)
  have he : e.length ≤ d.length := by
    refine rep_len (by decide) M'.rep ?_
    have h1 := M.rep.lt (by decide)
    have h2 : (((n.natAbs : Int)).natAbs : Int) = n.natAbs := by omega
    rw [h2]; exact h1
  obtain ⟨o1, ⟨K3, o2⟩⟩ := out_same N' M' (by omega) la
  obtain ⟨K1, h1⟩ := h
  obtain ⟨K2, h2⟩ := g
  refine ⟨⟨K1, fun k hk => ?_⟩, ⟨max K2 (max K3 K4), fun k hk => ?_⟩⟩
  · have g1 : whole_of.f k s l = _ := h1 k hk
    show whole_Abs.f k s l = _
    rw [whole_Abs.f, g1, Option.bind_some, signed_eq, Option.bind_some, o1, Option.bind_some]
    simp
  · have g1 : tribunalref02_From.f k s l = _ := h2 k (by omega)
    have g2 : tribunalref02_Make.f k false d = _ := h4 k (by omega)
    have g3 : tribunalref02_To.f k v e = _ := o2 k (by omega)
    show tribunalref02_Abs.f k s l = _
    rw [tribunalref02_Abs.f, g1, Option.bind_some, g2, Option.bind_some, g3, Option.bind_some]
    simp
theorem nil_num (B : Int) : Num B 0 false [] := ⟨⟨Dig.nil, trivial, rfl⟩, rfl⟩
theorem cmp_both {n m : Int} {s s1 t t1 : Bool} {l a d p b e : List Int} (h : Ev (fun k => whole_of.f k s l) (a, s1)) (g : Ev (fun k => tribunalref02_From.f k s l) (s1, d)) (N : Num 18446744073709551616 n s1 a) (M : Num 65536 n s1 d) (la : a.length ≤ 8388608) (ld : d.length ≤ 8388608)
    (h' : Ev (fun k => whole_of.f k t p) (b, t1)) (g' : Ev (fun k => tribunalref02_From.f k t p) (t1, e)) (N' : Num 18446744073709551616 m t1 b) (M' : Num 65536 m t1 e) (lb : b.length ≤ 8388608) (le : e.length ≤ 8388608) :
    Ev (fun k => whole_Cmp.f k s l t p) (sg (n - m)) ∧ Ev (fun k => tribunalref02_Cmp.f k s l t p) (sg (n - m)) := by
  obtain ⟨K1, h1⟩ := h
  obtain ⟨K2, h2⟩ := h'
  obtain ⟨K3, h3⟩ := g
  obtain ⟨K4, h4⟩ := g'
  obtain ⟨K5, h5⟩ := cmp_num N N' la lb
  obtain ⟨K6, h6⟩ := rcmp_num M M' ld le
  refine ⟨⟨K1 + K2 + K5, fun k hk => ?_⟩, ⟨K3 + K4 + K6, fun k hk => ?_⟩⟩
  · have g1 : whole_of.f k s l = _ := h1 k (by omega)
    have g2 : whole_of.f k t p = _ := h2 k (by omega)
    have g3 : whole_number_cmp.f k a s1 b t1 = _ := h5 k (by omega)
    show whole_Cmp.f k s l t p = _
    rw [whole_Cmp.f, g1, Option.bind_some, g2, Option.bind_some, g3, Option.bind_some]
  · have g1 : tribunalref02_From.f k s l = _ := h3 k (by omega)
    have g2 : tribunalref02_From.f k t p = _ := h4 k (by omega)
    have g3 : tribunalref02_Cmp1.f k s1 d t1 e = _ := h6 k (by omega)
    show tribunalref02_Cmp.f k s l t p = _
    rw [tribunalref02_Cmp.f, g1, Option.bind_some, g2, Option.bind_some, g3, Option.bind_some]
theorem sign_both {n : Int} {s s1 : Bool} {l a d : List Int} (h : Ev (fun k => whole_of.f k s l) (a, s1)) (g : Ev (fun k => tribunalref02_From.f k s l) (s1, d)) (N : Num 18446744073709551616 n s1 a) (M : Num 65536 n s1 d) (la : a.length ≤ 8388608) (ld : d.length ≤ 8388608) :
    Ev (fun k => whole_Sign.f k s l) (sg (n - 0)) ∧ Ev (fun k => tribunalref02_Sign.f k s l) (sg (n - 0)) := by
  obtain ⟨K1, h1⟩ := h
  obtain ⟨K3, h3⟩ := g
  obtain ⟨K5, h5⟩ := cmp_num N (nil_num _) la (by simp)
  obtain ⟨K6, h6⟩ := rcmp_num M (nil_num _) ld (by simp)
  refine ⟨⟨K1 + K5, fun k hk => ?_⟩, ⟨K3 + K6, fun k hk => ?_⟩⟩
  · have g1 : whole_of.f k s l = _ := h1 k (by omega)
    have g3 : whole_number_cmp.f k a s1 [] false = _ := h5 k (by omega)
    show whole_Sign.f k s l = _
    rw [whole_Sign.f, g1, Option.bind_some, g3, Option.bind_some]
  · have g1 : tribunalref02_From.f k s l = _ := h3 k (by omega)
    have g3 : tribunalref02_Cmp1.f k s1 d false [] = _ := h6 k (by omega)
    show tribunalref02_Sign.f k s l = _
    rw [tribunalref02_Sign.f, g1, Option.bind_some, g3, Option.bind_some]
end Go.Proofs.YtodhkpdcpneeeaaDoor.PurePAd
namespace Go.Proofs.YtodhkpdcpneeeaaDoor.Pure
open Go.RowKit Go.Proofs.YtodhkpdcpneeeaaDoorW.PrintWords Go.Proofs.YtodhkpdcpneeeaaDoorW.PrintLast Go.Proofs.YtodhkpdcpneeeaaDoorW.PrintMore Go.Proofs.YtodhkpdcpneeeaaDoor.PAd Go.Proofs.YtodhkpdcpneeeaaDoor Go.Proofs.YtodhkpdcpneeeaaDoor.Mine Big PurePAd
theorem wholeForms_pure (a : Bool) (x : List Int) (hx : x.length ≤ 1048576) (wx : ∀ z ∈ x, (Lit.int .u64 z).wf = true) (b : Bool) (y : List Int) (hy : y.length ≤ 1048576) (wy : ∀ z ∈ y, (Lit.int .u64 z).wf = true) (n : Int) (hn : -9223372036854775808 ≤ n ∧ n ≤ 9223372036854775807) : ∃ k, PAd.tribunallaw02_WholeForms.f k a x b y n = some true := by
  obtain ⟨n1, s1, a1, d1, h1, f1, N1, M1, l1, m1⟩ := arg_num a x hx (dig_of_wf wx)
  obtain ⟨n2, s2, a2, d2, h2, f2, N2, M2, l2, m2⟩ := arg_num b y hy (dig_of_wf wy)
  obtain ⟨K1, e1⟩ := Small_num h1 N1
  obtain ⟨K2, e2⟩ := rSmall_num f1 M1 (by omega)
  obtain ⟨s3, l3, ⟨K3, e3⟩, ⟨K4, e4⟩, z3⟩ := Of_ev hn
  obtain ⟨K5, e5⟩ := Same_ev s3 l3 z3
  obtain ⟨⟨K6, e6⟩, ⟨K7, e7⟩⟩ := norm_ev h1 f1 N1 M1 (by omega) (by omega)
  obtain ⟨K8, e8⟩ := Same_ev s1 a1 (by omega)
  obtain ⟨⟨K9, e9⟩, ⟨K10, e10⟩⟩ := cmp_both h1 f1 N1 M1 (by omega) (by omega) h2 f2 N2 M2 (by omega) (by omega)
  obtain ⟨⟨K11, e11⟩, ⟨K12, e12⟩⟩ := sign_both h1 f1 N1 M1 (by omega) (by omega)
  obtain ⟨u, ⟨K13, e13⟩, ⟨K14, e14⟩⟩ := neg_ev h1 f1 N1 M1 (by omega) (by omega)
  obtain ⟨K15, e15⟩ := Same_ev u a1 (by omega)
  obtain ⟨⟨K16, e16⟩, ⟨K17, e17⟩⟩ := abs_ev h1 f1 N1 M1 (by omega) (by omega)
  obtain ⟨K18, e18⟩ := Same_ev false a1 (by omega)
  obtain ⟨K19, e19⟩ := awake_ev
  obtain ⟨k, hk⟩ : ∃ k, k = K1 + K2 + K3 + K4 + K5 + K6 + K7 + K8 + K9 + K10 + K11 + K12 + K13 + K14 + K15 + K16 + K17 + K18 + K19 := ⟨_, rfl⟩
  refine ⟨k + 1, ?_⟩
  have g1 : whole_Small.f (k + 1) a x = _ := e1 (k + 1) (by omega)
  have g2 : tribunalref02_Small.f (k + 1) a x = _ := e2 (k + 1) (by omega)
  have g3 : whole_Of.f (k + 1) n = _ := e3 (k + 1) (by omega)
  have g4 : tribunalref02_Of.f (k + 1) n = _ := e4 (k + 1) (by omega)
  have g5 : tribunalref02_Same.f (k + 1) s3 l3 s3 l3 = _ := e5 (k + 1) (by omega)
  have g6 : whole_Norm.f (k + 1) a x = _ := e6 (k + 1) (by omega)
  have g7 : tribunalref02_Norm.f (k + 1) a x = _ := e7 (k + 1) (by omega)
  have g8 : tribunalref02_Same.f (k + 1) s1 a1 s1 a1 = _ := e8 (k + 1) (by omega)
  have g9 : whole_Cmp.f k a x b y = _ := e9 k (by omega)
  have g10 : tribunalref02_Cmp.f k a x b y = _ := e10 k (by omega)
  have g11 : whole_Sign.f k a x = _ := e11 k (by omega)
  have g12 : tribunalref02_Sign.f k a x = _ := e12 k (by omega)
  have g13 : whole_Neg.f k a x = _ := e13 k (by omega)
  have g14 : tribunalref02_Neg.f k a x = _ := e14 k (by omega)
  have g15 : tribunalref02_Same.f k u a1 u a1 = _ := e15 k (by omega)
  have g16 : whole_Abs.f k a x = _ := e16 k (by omega)
  have g17 : tribunalref02_Abs.f k a x = _ := e17 k (by omega)
  have g18 : tribunalref02_Same.f k false a1 false a1 = _ := e18 k (by omega)
  have g19 : tribunallaw02_awake.f k = _ := e19 k (by omega)
  clear hk e1 e2 e3 e4 e5 e6 e7 e8 e9 e10 e11 e12 e13 e14 e15 e16 e17 e18 e19
  have hj : tribunallaw02_WholeForms.j0 (k + 1) (!true) a x b y = some true := by
    rw [tribunallaw02_WholeForms.j0, if_neg (by decide), g9, Option.bind_some, g10, Option.bind_some, if_pos rfl, g11, Option.bind_some, g12, Option.bind_some, if_pos rfl, g13, Option.bind_some, g14, Option.bind_some, g15, Option.bind_some, if_pos rfl, g16, Option.bind_some, g17, Option.bind_some, g18, Option.bind_some, if_pos rfl, g19, Option.bind_some]
  rw [tribunallaw02_WholeForms.f, g1, Option.bind_some, g2, Option.bind_some, g3, Option.bind_some, g4, Option.bind_some, g5, Option.bind_some, if_pos rfl, if_pos rfl, if_neg (by simp), g6, Option.bind_some, g7, Option.bind_some, g8, Option.bind_some]
  exact hj
end Go.Proofs.YtodhkpdcpneeeaaDoor.Pure
