/- What the card rests on, part 5: words of the walk, the functions in Lean and that the code comes to them. No condition beyond those that each theorem names. -/
import Derived.Test.YtodhkpdcpneeeaaDoorCr4
set_option maxHeartbeats 8000000
set_option maxRecDepth 100000
namespace Go.Proofs.YtodhkpdcpneeeaaDoor.PurePDv
set_option linter.unusedVariables false
set_option linter.unusedSimpArgs false
open Go.RowKit Go.Proofs.YtodhkpdcpneeeaaDoorW.PrintWords Go.Proofs.YtodhkpdcpneeeaaDoorW.PrintLast Go.Proofs.YtodhkpdcpneeeaaDoorW.PrintMore Go.Proofs.YtodhkpdcpneeeaaDoor.PDv Go.Proofs.YtodhkpdcpneeeaaDoor Go.Proofs.YtodhkpdcpneeeaaDoor.Mine Big
def qn (n m : Int) : Int := if (decide (n < 0) != decide (m < 0)) = true then -((n.natAbs : Int) / (m.natAbs : Int)) else (n.natAbs : Int) / (m.natAbs : Int)
def rn (n m : Int) : Int := if decide (n < 0) = true then -((n.natAbs : Int) % (m.natAbs : Int)) else (n.natAbs : Int) % (m.natAbs : Int)
theorem cut_num {n m : Int} {s t : Bool} {a b : List Int} (ha : Num 18446744073709551616 n s a) (hb : Num 18446744073709551616 m t b) (hm : m ≠ 0) (la : a.length ≤ 8388600) (lb : b.length ≤ 8388600) :
    ∃ u q v r, Ev (fun k => whole_number_cut.f k a s b t) (q, u, r, v) ∧ Num 18446744073709551616 (qn n m) u q ∧ Num 18446744073709551616 (rn n m) v r := by
  obtain ⟨q, r, ⟨K, hK⟩, hq, hr⟩ := quo_ev ha.rep hb.rep (by omega) la lb
  refine ⟨_, q, _, r, ⟨K, fun k hk => ?_⟩, Num.of_rep' (by decide) hq (s != t) (by rw [ha.sign, hb.sign]; rfl), Num.of_rep' (by decide) hr s (by rw [ha.sign]; rfl)⟩
  have e : whole_amount_quo.f k a b = _ := hK k hk
  show whole_number_cut.f k a s b t = _
  rw [whole_number_cut.f, e, Option.bind_some, signed_eq, Option.bind_some, signed_eq, Option.bind_some]
theorem rMake_rep {v : Int} {l : List Int} (h : Rep 65536 v l) (hl : l.length ≤ 8388608) (b : Bool) {n : Int} (hn : n = if b then -v else v) : ∃ u r, Ev (fun k => tribunalref02_Make.f k b l) (u, r) ∧ Num 65536 n u r := by
  obtain ⟨r, hE, h1, h2, h3⟩ := Make_ev b l (by omega) h.dig
  exact ⟨_, r, hE, Num.of_rep' (by decide) ⟨h1, h2, h3.trans h.val⟩ b hn⟩
theorem div_small {A D : Int} {L : Nat} (hA : 0 ≤ A ∧ A < 65536 ^ L) (hD : 0 < D) : A / D < 65536 ^ L ∧ A % D < 65536 ^ L := by
  have h1 := Int.ediv_le_self D hA.1
  have h2 := Int.mul_ediv_add_emod A D
  have h3 : 0 ≤ A / D := Int.ediv_nonneg hA.1 (Int.le_of_lt hD)
  have h4 := Int.mul_nonneg (Int.le_of_lt hD) h3
  exact ⟨by omega, by omega⟩
theorem Cut_num {n m : Int} {s t : Bool} {a b : List Int} (ha : Num 65536 n s a) (hb : Num 65536 m t b) (hm : m ≠ 0) (la : a.length ≤ 8388590) (lb : b.length ≤ 8388590) :
    ∃ u q v r, Ev (fun k => tribunalref02_Cut.f k s a t b) (u, q, v, r) ∧ Num 65536 (qn n m) u q ∧ Num 65536 (rn n m) v r ∧ q.length ≤ a.length ∧ r.length ≤ a.length := by
  obtain ⟨q0, r0, ⟨K1, h1⟩, hq, hr⟩ := divD_ev ha.rep hb.rep (by omega) (by omega) lb
  have hA0 := ha.rep.nonneg (by decide)
  have hA1 := ha.rep.lt (by decide)
  obtain ⟨d1, d2⟩ := div_small (D := (m.natAbs : Int)) ⟨hA0, hA1⟩ (by omega)
  have lq := rep_len (by decide) hq d1
  have lr := rep_len (by decide) hr d2
  obtain ⟨u, q, ⟨K2, h2⟩, N1⟩ := rMake_rep hq (by omega) (s != t) (n := qn n m) (by rw [ha.sign, hb.sign]; rfl)
  obtain ⟨v, r, ⟨K3, h3⟩, N2⟩ := rMake_rep hr (by omega) s (n := rn n m) (by rw [ha.sign]; rfl)
  have eq1 : ((qn n m).natAbs : Int) = (n.natAbs : Int) / (m.natAbs : Int) := by
    have : 0 ≤ (n.natAbs : Int) / (m.natAbs : Int) := Int.ediv_nonneg (by omega) (by omega)
    unfold qn; split <;> omega
  have er1 : ((rn n m).natAbs : Int) = (n.natAbs : Int) % (m.natAbs : Int) := by
    have : 0 ≤ (n.natAbs : Int) % (m.natAbs : Int) := Int.emod_nonneg _ (by omega)
    unfold rn; split <;> omega
  refine ⟨u, q, v, r, ⟨K1 + K2 + K3, fun k hk => ?_⟩, N1, N2, rep_len (by decide) N1.rep (by rw [eq1]; exact d1), rep_len (by decide) N2.rep (by rw [er1]; exact d2)⟩
  have e1 : tribunalref02_divD.f k a b = _ := h1 k (by omega)
  have e2 : tribunalref02_Make.f k (s != t) q0 = _ := h2 k (by omega)
  have e3 : tribunalref02_Make.f k s r0 = _ := h3 k (by omega)
  show tribunalref02_Cut.f k s a t b = _
  rw [tribunalref02_Cut.f, e1, Option.bind_some, e2, Option.bind_some, e3, Option.bind_some]
theorem null_eq (l : List Int) : whole_amount_null.f l = some (decide (l = [])) := by
  rw [whole_amount_null.f]
  congr 1
  cases l <;> simp <;> omega
theorem num_nil {B n : Int} (hB : 0 < B) {s : Bool} {a : List Int} (h : Num B n s a) : a = [] ↔ n = 0 := by
  rw [h.rep.nil_iff hB]; omega
theorem one_num : whole_one.f = some ([1], false) ∧ Num 18446744073709551616 1 false [1] :=
  ⟨rfl, ⟨⟨by rw [Dig.cons]; exact ⟨by decide, Dig.nil⟩, by simp [Top], by simp [val]⟩, rfl⟩⟩
theorem qn_abs (n m : Int) : ((qn n m).natAbs : Int) = (n.natAbs : Int) / (m.natAbs : Int) := by
  have : 0 ≤ (n.natAbs : Int) / (m.natAbs : Int) := Int.ediv_nonneg (by omega) (by omega)
  unfold qn; split <;> omega
theorem rn_abs (n : Int) {m : Int} (hm : m ≠ 0) : ((rn n m).natAbs : Int) = (n.natAbs : Int) % (m.natAbs : Int) := by
  have : 0 ≤ (n.natAbs : Int) % (m.natAbs : Int) := Int.emod_nonneg _ (by omega)
  unfold rn; split <;> omega
theorem qn_le (n m : Int) : ((qn n m).natAbs : Int) ≤ n.natAbs := by
  rw [qn_abs]; exact Int.ediv_le_self _ (by omega)
theorem len_small {B n k : Int} (hB : 0 < B) {s t : Bool} {a q : List Int} (ha : Num B n s a) (hq : Num B k t q) (h : (k.natAbs : Int) ≤ n.natAbs) : q.length ≤ a.length :=
  rep_len hB hq.rep (Int.lt_of_le_of_lt h (ha.rep.lt hB))
end Go.Proofs.YtodhkpdcpneeeaaDoor.PurePDv
namespace Go.Proofs.YtodhkpdcpneeeaaDoor.PurePDv
set_option linter.unusedVariables false
set_option linter.unusedSimpArgs false
open Go.RowKit Go.Proofs.YtodhkpdcpneeeaaDoorW.PrintWords Go.Proofs.YtodhkpdcpneeeaaDoorW.PrintLast Go.Proofs.YtodhkpdcpneeeaaDoorW.PrintMore Go.Proofs.YtodhkpdcpneeeaaDoor.PDv Go.Proofs.YtodhkpdcpneeeaaDoor Go.Proofs.YtodhkpdcpneeeaaDoor.Mine Big
theorem told_eq (s : Bool) (l : List Int) : whole_number_told.f l s = some (if l.length > 4096 then (false, [], 5) else (s, l, 0)) := by
  by_cases hc : l.length > 4096
  · simp only [whole_number_told.f, whole_number_long.f, Option.bind_some]
    rw [if_pos (by simp; omega), if_pos hc]
  · simp only [whole_number_told.f, whole_number_long.f, Option.bind_some]
    rw [if_neg (by simp; omega), if_neg hc, whole_number_out.f, api_Nat_uint64.f, if_pos (by omega), Option.bind_some, Option.bind_some]
def ro (n m : Int) (up : Bool) : Int := if rn n m = 0 then qn n m else if up = true then (if decide (n < 0) = decide (m < 0) then qn n m + 1 else qn n m) else (if decide (n < 0) = decide (m < 0) then qn n m else qn n m - 1)
theorem rn_sign {n m : Int} (hm : m ≠ 0) (h : rn n m ≠ 0) : decide (rn n m < 0) = decide (n < 0) := by
  have h1 := rn_abs n hm
  have h2 : 0 ≤ (n.natAbs : Int) % (m.natAbs : Int) := Int.emod_nonneg _ (by omega)
  unfold rn at h ⊢
  by_cases hn : n < 0
  · rw [if_pos (decide_eq_true hn)] at h ⊢
    rw [decide_eq_true hn]; exact decide_eq_true (by omega)
  · rw [if_neg (by simpa using hn)] at h ⊢
    rw [decide_eq_false hn]; exact decide_eq_false (by omega)
theorem rounded_ev {n m : Int} {s t : Bool} {a b : List Int} (ha : Num 18446744073709551616 n s a) (hb : Num 18446744073709551616 m t b) (hm : m ≠ 0) (la : a.length ≤ 1048576) (lb : b.length ≤ 1048576) {x : Bool} {l : List Int} {y : Bool} {p : List Int} (h1 : Ev (fun k => whole_of.f k x l) (a, s)) (h2 : Ev (fun k => whole_of.f k y p) (b, t)) (up : Bool) :
    ∃ u q, Num 18446744073709551616 (ro n m up) u q ∧ Ev (fun k => whole_rounded.f k x l y p up) (if q.length > 4096 then (false, [], 5) else (u, q, 0)) := by
  obtain ⟨K1, e1⟩ := h1
  obtain ⟨K2, e2⟩ := h2
  obtain ⟨u, q, v, r, ⟨K3, e3⟩, N3, N4⟩ := cut_num ha hb hm (by omega) (by omega)
  have hne : ¬ decide (b = []) = true := by simpa using fun h => hm ((num_nil (by decide) hb).1 h)
  have lq := len_small (by decide) ha N3 (qn_le n m)
  have sv := N4.sign
  have ss := ha.sign
  have st := hb.sign
  obtain ⟨o1, No⟩ := one_num
  have inil := num_nil (by decide) N4
  have hd : ∀ k, K1 + K2 + K3 ≤ k → whole_rounded.f k x l y p up = (if decide (r = []) = true then (whole_number_told.f q u).bind fun z => some (z.1, z.2.1, z.2.2) else if up = true then whole_rounded.j0 k up (v == t) b t q u r v else whole_rounded.j0 k up false b t q u r v) := by
    intro k hk
    have g1 : whole_of.f k x l = _ := e1 k (by omega)
    have g2 : whole_of.f k y p = _ := e2 k (by omega)
    have g3 : whole_number_cut.f k a s b t = _ := e3 k (by omega)
    rw [whole_rounded.f, g2, Option.bind_some, null_eq, Option.bind_some, if_neg hne, g1, Option.bind_some, g3, Option.bind_some, null_eq, Option.bind_some]
  by_cases hr0 : rn n m = 0
  · refine ⟨u, q, by unfold ro; rw [if_pos hr0]; exact N3, ⟨K1 + K2 + K3, fun k hk => ?_⟩⟩
    show whole_rounded.f k x l y p up = _
    rw [hd k hk, if_pos (decide_eq_true (inil.2 hr0)), told_eq, Option.bind_some]
  · have hrn : ¬ decide (r = []) = true := by simpa using fun h => hr0 (inil.1 h)
    have hvs : v = s := by rw [sv, ss]; exact rn_sign hm hr0
    obtain ⟨u2, q2, ⟨K4, e4⟩, N5⟩ := plus_num N3 No (by omega) (by simp)
    obtain ⟨u3, q3, ⟨K5, e5⟩, N6⟩ := minus_num N3 No (by omega) (by simp)
    by_cases hst : decide (n < 0) = decide (m < 0)
    · have hst' : v = t := by rw [hvs, ss, st]; exact hst
      cases up with
      | true =>
        refine ⟨u2, q2, by unfold ro; rw [if_neg hr0, if_pos rfl, if_pos hst]; exact N5, ⟨K1 + K2 + K3 + K4 + 1, fun k hk => ?_⟩⟩
        obtain ⟨k, rfl⟩ : ∃ j, k = j + 1 := ⟨k - 1, by omega⟩
        have g4 : whole_number_plus.f k q u [1] false = _ := e4 k (by omega)
        show whole_rounded.f (k + 1) x l y p true = _
        rw [hd (k + 1) (by omega), if_neg hrn, if_pos rfl, whole_rounded.j0, if_pos (by rw [hst']; exact beq_self_eq_true t), o1, Option.bind_some, g4, Option.bind_some, told_eq, Option.bind_some]
      | false =>
        refine ⟨u, q, by unfold ro; rw [if_neg hr0, if_neg (by decide), if_pos hst]; exact N3, ⟨K1 + K2 + K3 + K4 + 2, fun k hk => ?_⟩⟩
        obtain ⟨k, rfl⟩ : ∃ j, k = j + 2 := ⟨k - 2, by omega⟩
        show whole_rounded.f (k + 1 + 1) x l y p false = _
        rw [hd (k + 1 + 1) (by omega), if_neg hrn, if_neg (by decide), whole_rounded.j0, if_neg (by decide), if_neg (by decide), whole_rounded.j1, if_neg (by rw [hst']; simp), told_eq, Option.bind_some]
    · have hst' : ¬ v = t := by rw [hvs, ss, st]; exact hst
      cases up with
      | true =>
        refine ⟨u, q, by unfold ro; rw [if_neg hr0, if_pos rfl, if_neg hst]; exact N3, ⟨K1 + K2 + K3 + K4 + 2, fun k hk => ?_⟩⟩
        obtain ⟨k, rfl⟩ : ∃ j, k = j + 2 := ⟨k - 2, by omega⟩
        show whole_rounded.f (k + 1 + 1) x l y p true = _
        rw [hd (k + 1 + 1) (by omega), if_neg hrn, if_pos rfl, whole_rounded.j0, if_neg (by simpa using hst'), if_pos rfl, whole_rounded.j1, if_neg (by decide), told_eq, Option.bind_some]
      | false =>
        refine ⟨u3, q3, by unfold ro; rw [if_neg hr0, if_neg (by decide), if_neg hst]; exact N6, ⟨K1 + K2 + K3 + K5 + 2, fun k hk => ?_⟩⟩
        obtain ⟨k, rfl⟩ : ∃ j, k = j + 2 := ⟨k - 2, by omega⟩
        have g5 : whole_number_minus.f k q u [1] false = _ := e5 k (by omega)
        show whole_rounded.f (k + 1 + 1) x l y p false = _
        rw [hd (k + 1 + 1) (by omega), if_neg hrn, if_neg (by decide), whole_rounded.j0, if_neg (by decide), if_neg (by decide), whole_rounded.j1, if_pos (by simpa using hst'), o1, Option.bind_some, g5, Option.bind_some, told_eq, Option.bind_some]
theorem Rounded_num {n m : Int} {s t : Bool} {a b : List Int} (ha : Num 65536 n s a) (hb : Num 65536 m t b) (hm : m ≠ 0) (la : a.length ≤ 4194304) (lb : b.length ≤ 4194304) (up : Bool) :
    ∃ u q, Ev (fun k => tribunalref02_Rounded.f k s a t b up) (u, q) ∧ Num 65536 (ro n m up) u q ∧ q.length ≤ 8388608 := by
  obtain ⟨u, q, v, r, ⟨K1, e1⟩, N1, N2, lq, lr⟩ := Cut_num ha hb hm (by omega) (by omega)
  have ss := ha.sign
  have st := hb.sign
  have inil := num_nil (by decide) N2
  have hd : ∀ k, K1 ≤ k → tribunalref02_Rounded.f k s a t b up = (if (r.length : Int) = 0 then some (u, q) else if up = true then tribunalref02_Rounded.j0 k up (s != t) (s == t) u q else tribunalref02_Rounded.j0 k up (s != t) false u q) := by
    intro k hk
    have g1 : tribunalref02_Cut.f k s a t b = _ := e1 k (by omega)
    rw [tribunalref02_Rounded.f, g1, Option.bind_some]
  by_cases hr0 : rn n m = 0
  · refine ⟨u, q, ⟨K1, fun k hk => ?_⟩, by unfold ro; rw [if_pos hr0]; exact N1, by omega⟩
    show tribunalref02_Rounded.f k s a t b up = _
    rw [hd k hk, if_pos (by rw [inil.2 hr0]; rfl)]
  · have hrn : ¬ (r.length : Int) = 0 := fun h => hr0 (inil.1 (List.length_eq_zero_iff.1 (by omega)))
    obtain ⟨w, d, ⟨K2, e2⟩, No, lo⟩ := Small1_num (n := 1) (by omega)
    obtain ⟨w', d', ⟨K3, e3⟩, No', lo'⟩ := Small1_num (n := -1) (by omega)
    obtain ⟨u2, q2, ⟨K4, e4⟩, N5⟩ := rplus_num N1 No (by omega) (by omega)
    obtain ⟨u3, q3, ⟨K5, e5⟩, N6⟩ := rplus_num N1 No' (by omega) (by omega)
    have l5 := num_len (by decide) N1 No N5 (by omega) (show q.length ≤ 4194304 by omega) (show d.length ≤ 4194304 by omega)
    have l6 := num_len (by decide) N1 No' N6 (by omega) (show q.length ≤ 4194304 by omega) (show d'.length ≤ 4194304 by omega)
    by_cases hst : decide (n < 0) = decide (m < 0)
    · have hst' : s = t := by rw [ss, st]; exact hst
      cases up with
      | true =>
        refine ⟨u2, q2, ⟨K1 + K2 + K4 + 1, fun k hk => ?_⟩, by unfold ro; rw [if_neg hr0, if_pos rfl, if_pos hst]; exact N5, by omega⟩
        obtain ⟨k, rfl⟩ : ∃ j, k = j + 1 := ⟨k - 1, by omega⟩
        have g2 : tribunalref02_Small1.f k 1 = _ := e2 k (by omega)
        have g4 : tribunalref02_Plus.f k u q w d = _ := e4 k (by omega)
        show tribunalref02_Rounded.f (k + 1) s a t b true = _
        rw [hd (k + 1) (by omega), if_neg hrn, if_pos rfl, tribunalref02_Rounded.j0, if_pos (by rw [hst']; exact beq_self_eq_true t), g2, Option.bind_some, g4, Option.bind_some]
      | false =>
        refine ⟨u, q, ⟨K1 + 2, fun k hk => ?_⟩, by unfold ro; rw [if_neg hr0, if_neg (by decide), if_pos hst]; exact N1, by omega⟩
        obtain ⟨k, rfl⟩ : ∃ j, k = j + 2 := ⟨k - 2, by omega⟩
        show tribunalref02_Rounded.f (k + 1 + 1) s a t b false = _
        rw [hd (k + 1 + 1) (by omega), if_neg hrn, if_neg (by decide), tribunalref02_Rounded.j0, if_neg (by decide), if_neg (by decide), tribunalref02_Rounded.j1, if_neg (by rw [hst']; simp)]
    · have hst' : ¬ s = t := by rw [ss, st]; exact hst
      cases up with
      | true =>
        refine ⟨u, q, ⟨K1 + 2, fun k hk => ?_⟩, by unfold ro; rw [if_neg hr0, if_pos rfl, if_neg hst]; exact N1, by omega⟩
        obtain ⟨k, rfl⟩ : ∃ j, k = j + 2 := ⟨k - 2, by omega⟩
        show tribunalref02_Rounded.f (k + 1 + 1) s a t b true = _
        rw [hd (k + 1 + 1) (by omega), if_neg hrn, if_pos rfl, tribunalref02_Rounded.j0, if_neg (by simpa using hst'), if_pos rfl, tribunalref02_Rounded.j1, if_neg (by decide)]
      | false =>
        refine ⟨u3, q3, ⟨K1 + K3 + K5 + 2, fun k hk => ?_⟩, by unfold ro; rw [if_neg hr0, if_neg (by decide), if_neg hst, Int.sub_eq_add_neg]; exact N6, by omega⟩
        obtain ⟨k, rfl⟩ : ∃ j, k = j + 2 := ⟨k - 2, by omega⟩
        have g3 : tribunalref02_Small1.f k (-1) = _ := e3 k (by omega)
        have g5 : tribunalref02_Plus.f k u q w' d' = _ := e5 k (by omega)
        show tribunalref02_Rounded.f (k + 1 + 1) s a t b false = _
        rw [hd (k + 1 + 1) (by omega), if_neg hrn, if_neg (by decide), tribunalref02_Rounded.j0, if_neg (by decide), if_neg (by decide), tribunalref02_Rounded.j1, if_pos (by simpa using hst'), g3, Option.bind_some, g5, Option.bind_some]
theorem Round_ev (s : Bool) (l : List Int) (hl : l.length ≤ 1048576) (hd : Dig 18446744073709551616 l) (t : Bool) (m : List Int) (hm : m.length ≤ 1048576) (hdm : Dig 18446744073709551616 m) (up : Bool) :
    ∃ x, Ev (fun k => whole_rounded.f k s l t m up) x ∧ Ev (fun k => tribunalref02_Round.f k s l t m up) x ∧ x.2.1.length ≤ 8388608 := by
  obtain ⟨n1, s1, a1, d1, E1, ⟨J1, f1⟩, N1, M1, l1, k1⟩ := arg_num s l hl hd
  obtain ⟨n2, s2, a2, d2, E2, ⟨J2, f2⟩, N2, M2, l2, k2⟩ := arg_num t m hm hdm
  have i1 := num_nil (by decide) N2
  have i2 := num_nil (by decide) M2
  by_cases hz : n2 = 0
  · obtain ⟨K2, e2⟩ := E2
    refine ⟨(false, [], 11), ⟨K2, fun k hk => ?_⟩, ⟨J2, fun k hk => ?_⟩, by simp⟩
    · have g2 : whole_of.f k t m = _ := e2 k hk
      show whole_rounded.f k s l t m up = _
      rw [whole_rounded.f, g2, Option.bind_some, null_eq, Option.bind_some, if_pos (decide_eq_true (i1.2 hz))]
    · have g2 : tribunalref02_From.f k t m = _ := f2 k hk
      show tribunalref02_Round.f k s l t m up = _
      rw [tribunalref02_Round.f, g2, Option.bind_some, if_pos (by rw [i2.2 hz]; rfl)]
  · obtain ⟨u, q, N3, hW⟩ := rounded_ev N1 N2 hz (by omega) (by omega) E1 E2 up
    obtain ⟨u', q', ⟨J3, f3⟩, M3, x1⟩ := Rounded_num M1 M2 hz (by omega) (by omega) up
    obtain ⟨z, hz', ⟨J4, f4⟩, hzl⟩ := told_same N3 M3 x1
    have hne : ¬ (d2.length : Int) = 0 := by
      intro h
      have : d2 = [] := List.length_eq_zero_iff.1 (by omega)
      exact hz (i2.1 this)
    rw [told_eq] at hz'
    have hzz := Option.some.inj hz'
    refine ⟨z, hzz ▸ hW, ⟨J1 + J2 + J3 + J4, fun k hk => ?_⟩, hzl⟩
    have g1 : tribunalref02_From.f k s l = _ := f1 k (by omega)
    have g2 : tribunalref02_From.f k t m = _ := f2 k (by omega)
    have g3 : tribunalref02_Rounded.f k s1 d1 s2 d2 up = _ := f3 k (by omega)
    have g4 : tribunalref02_Out.f k u' q' = _ := f4 k (by omega)
    show tribunalref02_Round.f k s l t m up = _
    rw [tribunalref02_Round.f, g2, Option.bind_some, if_neg hne, g1, Option.bind_some, g3, Option.bind_some, g4, Option.bind_some]
end Go.Proofs.YtodhkpdcpneeeaaDoor.PurePDv
namespace Go.Proofs.YtodhkpdcpneeeaaDoor.Pure
open Go.RowKit Go.Proofs.YtodhkpdcpneeeaaDoorW.PrintWords Go.Proofs.YtodhkpdcpneeeaaDoorW.PrintLast Go.Proofs.YtodhkpdcpneeeaaDoorW.PrintMore Go.Proofs.YtodhkpdcpneeeaaDoor.PDv Go.Proofs.YtodhkpdcpneeeaaDoor Go.Proofs.YtodhkpdcpneeeaaDoor.Mine Big PurePDv
theorem wholeRounds_pure (a : Bool) (x : List Int) (hx : x.length ≤ 1048576) (wx : ∀ z ∈ x, (Lit.int .u64 z).wf = true) (b : Bool) (y : List Int) (hy : y.length ≤ 1048576) (wy : ∀ z ∈ y, (Lit.int .u64 z).wf = true) : ∃ k, PDv.tribunallaw02_WholeRounds.f k a x b y = some true := by
  obtain ⟨⟨c, l, e⟩, ⟨K1, e1⟩, ⟨K2, e2⟩, hl⟩ := Round_ev a x hx (dig_of_wf wx) b y hy (dig_of_wf wy) false
  obtain ⟨⟨d, m, i⟩, ⟨K3, e3⟩, ⟨K4, e4⟩, hm⟩ := Round_ev a x hx (dig_of_wf wx) b y hy (dig_of_wf wy) true
  obtain ⟨K5, e5⟩ := Same_ev c l hl
  obtain ⟨K6, e6⟩ := Same_ev d m hm
  obtain ⟨K7, e7⟩ := awake_ev
  obtain ⟨k, h1, h2, h3, h4, h5, h6, h7⟩ : ∃ k, K1 ≤ k ∧ K2 ≤ k ∧ K3 ≤ k ∧ K4 ≤ k ∧ K5 ≤ k ∧ K6 ≤ k ∧ K7 ≤ k := ⟨K1 + K2 + K3 + K4 + K5 + K6 + K7, by omega, by omega, by omega, by omega, by omega, by omega, by omega⟩
  refine ⟨k, ?_⟩
  have g1 : whole_rounded.f k a x b y false = _ := e1 k h1
  have g2 : tribunalref02_Round.f k a x b y false = _ := e2 k h2
  have g3 : whole_rounded.f k a x b y true = _ := e3 k h3
  have g4 : tribunalref02_Round.f k a x b y true = _ := e4 k h4
  have g5 : tribunalref02_Same.f k c l c l = _ := e5 k h5
  have g6 : tribunalref02_Same.f k d m d m = _ := e6 k h6
  have g7 : tribunallaw02_awake.f k = _ := e7 k h7
  rw [tribunallaw02_WholeRounds.f, whole_Floor.f, g1, Option.bind_some, Option.bind_some, g2, Option.bind_some, whole_Ceil.f, g3, Option.bind_some, Option.bind_some, g4, Option.bind_some, g5, Option.bind_some, if_pos rfl, if_pos rfl, g6, Option.bind_some, if_pos rfl, if_pos rfl, g7, Option.bind_some]
end Go.Proofs.YtodhkpdcpneeeaaDoor.Pure
