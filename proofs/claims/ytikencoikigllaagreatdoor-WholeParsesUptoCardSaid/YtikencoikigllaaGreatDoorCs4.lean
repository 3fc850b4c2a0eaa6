/- Part 4 of what the card rests on. -/
import Derived.Lib.ItoaNum
import Derived.Test.YtikencoikigllaaGreatDoorCs3
set_option maxHeartbeats 8000000
set_option maxRecDepth 100000
set_option linter.unusedVariables false
set_option linter.unusedSimpArgs false
namespace Go.Proofs.YtikencoikigllaaGreatDoor.PurePRy
set_option linter.unusedVariables false
set_option linter.unusedSimpArgs false
open Go.RowKit Go.Proofs.YtikencoikigllaaGreatDoorW.PrintWords Go.Proofs.YtikencoikigllaaGreatDoorW.PrintLast Go.Proofs.YtikencoikigllaaGreatDoorW.PrintMore Go.Proofs.YtikencoikigllaaGreatDoor.PRy Go.Proofs.YtikencoikigllaaGreatDoor Go.Proofs.YtikencoikigllaaGreatDoor.Mine Big
theorem plus_num {n m : Int} {s t : Bool} {a b : List Int} (ha : Num 18446744073709551616 n s a) (hb : Num 18446744073709551616 m t b) (la : a.length ≤ 8388600) (lb : b.length ≤ 8388600) :
  ∃ u r, Ev (fun k => whole_number_plus.f k a s b t) (r, u) ∧ Num 18446744073709551616 (n + m) u r := by
 have e1 := ha.sign
 have e2 := hb.sign
 by_cases hst : s = t
 ·obtain ⟨r, ⟨K, hr⟩, hR⟩ := plus_ev a b la lb ha.rep.dig hb.rep.dig
  rw [ha.rep.val, hb.rep.val] at hR
  refine ⟨_, r, ⟨K, fun k hk => ?_⟩, Num.of_rep' (by decide) hR s (by subst hst; cases s <;> simp at e1 e2 ⊢ <;> omega)⟩
  have g : whole_amount_plus.f k a b = some r := hr k hk
  show whole_number_plus.f k a s b t = _
  rw [whole_number_plus.f, if_pos (by rw [hst]; exact beq_self_eq_true t), g, Option.bind_some, signed_eq, Option.bind_some]
 obtain ⟨K1, h1⟩ := whole_amount_cmp_ev a b (by omega) (by omega) ha.rep.dig hb.rep.dig ha.rep.top hb.rep.top
 have hne : ¬ (s == t) = true := by intro h; exact hst (eq_of_beq h)
 by_cases hle : val 18446744073709551616 b ≤ val 18446744073709551616 a
 ·obtain ⟨r, ⟨K, hr⟩, hR⟩ := minus_ev a b (by omega) (len_of_le (by decide) ha.rep.dig hb.rep.dig hb.rep.top hle) hle ha.rep.dig hb.rep.dig
  have hle' := hle
  rw [ha.rep.val, hb.rep.val] at hR hle'
  refine ⟨_, r, ⟨max K K1, fun k hk => ?_⟩, Num.of_rep' (by decide) hR s (by cases s <;> cases t <;> simp at hst e1 e2 ⊢ <;> omega)⟩
  have g : whole_amount_minus.f k a b = some r := hr k (by omega)
  have g1 : whole_amount_cmp.f k a b = _ := h1 k (by omega)
  show whole_number_plus.f k a s b t = _
  rw [whole_number_plus.f, if_neg hne, g1, Option.bind_some, if_pos (sg_ge.2 (by omega)), g, Option.bind_some, signed_eq, Option.bind_some]
 have hle2 : val 18446744073709551616 a ≤ val 18446744073709551616 b := by omega
 obtain ⟨r, ⟨K, hr⟩, hR⟩ := minus_ev b a (by omega) (len_of_le (by decide) hb.rep.dig ha.rep.dig ha.rep.top hle2) hle2 hb.rep.dig ha.rep.dig
 have hle' := hle2
 rw [ha.rep.val, hb.rep.val] at hR hle'
 refine ⟨_, r, ⟨max K K1, fun k hk => ?_⟩, Num.of_rep' (by decide) hR t (by cases s <;> cases t <;> simp at hst e1 e2 ⊢ <;> omega)⟩
 have g : whole_amount_minus.f k b a = some r := hr k (by omega)
 have g1 : whole_amount_cmp.f k a b = _ := h1 k (by omega)
 show whole_number_plus.f k a s b t = _
 rw [whole_number_plus.f, if_neg hne, g1, Option.bind_some, if_neg (fun x => hle (by have := sg_ge.1 x; omega)), g, Option.bind_some, signed_eq, Option.bind_some]
theorem addD_step (k : Nat) (a b out : List Int) (c : Int) (i : Nat) (hi : i < a.length ∨ i < b.length ∨ 0 < c) (ha : a.length ≤ 8388608) (hb : b.length ≤ 8388608) (hi2 : i ≤ 8388608) (ho : out.length = i) (da : Dig 65536 a) (db : Dig 65536 b) (hc : 0 ≤ c ∧ c ≤ 1) :
  tribunalref02_addD.l0 (k + 2) a b out c (i : Int) = tribunalref02_addD.l0 k a b (out ++ [(a.getD i 0 + b.getD i 0 + c) % 65536]) ((a.getD i 0 + b.getD i 0 + c) / 65536) ((i + 1 : Nat) : Int) := by
 have ga := getD_dig (by decide) da i
 have gb := getD_dig (by decide) db i
 have hw : wrap64 ((i : Int) + 1) = ((i + 1 : Nat) : Int) := by rw [w64 _ (by omega)]; omega
 have e1 : tribunalref02_addD.l0 (k + 1 + 1) a b out c (i : Int) = tribunalref02_addD.j1 (k + 1) a b out c (i : Int) true := by
  rw [tribunalref02_addD.l0]
  by_cases h1 : (i : Int) < (a.length : Int)
  ·rw [if_pos h1]
  by_cases h2 : (i : Int) < (b.length : Int)
  ·rw [if_neg h1, if_pos h2]
  rw [if_neg h1, if_neg h2, show decide (c > 0) = true from by simp; omega]
 show tribunalref02_addD.l0 (k + 1 + 1) a b out c (i : Int) = _
 rw [e1, tribunalref02_addD.j1, if_pos rfl, rd_getD, rd_getD, hw]
 by_cases h1 : (i : Int) < (a.length : Int)
 ·by_cases h2 : (i : Int) < (b.length : Int)
  ·have e : (c + a.getD i 0 + b.getD i 0) % 4294967296 = a.getD i 0 + b.getD i 0 + c := by omega
   rw [if_pos h1, if_pos (by omega), if_pos h2, if_pos (by omega), e, IntKind.wrap_u16]
  have e : (c + a.getD i 0) % 4294967296 = a.getD i 0 + b.getD i 0 + c := by have := getD_ge b i (by omega); omega
  rw [if_pos h1, if_pos (by omega), if_neg h2, if_pos (by omega), e, IntKind.wrap_u16]
 by_cases h2 : (i : Int) < (b.length : Int)
 ·have e : (c + b.getD i 0) % 4294967296 = a.getD i 0 + b.getD i 0 + c := by have := getD_ge a i (by omega); omega
  rw [if_neg h1, if_pos h2, if_pos (by omega), if_pos (by omega), e, IntKind.wrap_u16]
 have e : a.getD i 0 + b.getD i 0 + c = c := by have := getD_ge a i (by omega); have := getD_ge b i (by omega); omega
 rw [if_neg h1, if_neg h2, if_pos (by omega), e, IntKind.wrap_u16]
theorem addD_end (k : Nat) (a b out : List Int) (c : Int) (i : Nat) (h1 : ¬ i < a.length) (h2 : ¬ i < b.length) (h3 : ¬ 0 < c) : tribunalref02_addD.l0 (k + 2) a b out c (i : Int) = some out := by
 show tribunalref02_addD.l0 (k + 1 + 1) a b out c (i : Int) = _
 rw [tribunalref02_addD.l0, if_neg (by omega), if_neg (by omega), show decide (c > 0) = false from by simp; omega, tribunalref02_addD.j1, if_neg (by decide)]
theorem addD_l0 (a b : List Int) (ha : a.length ≤ 8388600) (hb : b.length ≤ 8388600) (da : Dig 65536 a) (db : Dig 65536 b) : ∀ (n i : Nat) (out : List Int) (c : Int), 2 * (max a.length b.length - i) + c.toNat ≤ n → i ≤ max a.length b.length + 1 → (i ≤ max a.length b.length ∨ c = 0) → out.length = i → Dig 65536 out → 0 ≤ c ∧ c ≤ 1 → val 65536 out + c * 65536 ^ i = val 65536 (a.take i) + val 65536 (b.take i) →
  ∃ r, Ev (fun k => tribunalref02_addD.l0 k a b out c (i : Int)) r ∧ Dig 65536 r ∧ val 65536 r = val 65536 a + val 65536 b ∧ r.length ≤ max a.length b.length + 1 := by
 intro n
 induction n with
 | zero =>
  intro i out c hn him him2 ho hd hc hv
  refine ⟨out, ⟨2, fun k hk => ?_⟩, hd, ?_, by omega⟩
  ·obtain ⟨k, rfl⟩ : ∃ j, k = j + 2 := ⟨k - 2, by omega⟩
   exact addD_end k a b out c i (by omega) (by omega) (by omega)
  rw [List.take_of_length_le (by omega), List.take_of_length_le (by omega), show c = 0 from by omega] at hv
  omega
 | succ n ih =>
  intro i out c hn him him2 ho hd hc hv
  by_cases h : i < a.length ∨ i < b.length ∨ 0 < c
  ·have ga := getD_dig (by decide) da i
   have gb := getD_dig (by decide) db i
   have hx : (a.length ≤ i → a.getD i 0 = 0) := getD_ge a i
   have hy : (b.length ≤ i → b.getD i 0 = 0) := getD_ge b i
   obtain ⟨r, ⟨K, hr⟩, hq⟩ := ih (i + 1) (out ++ [(a.getD i 0 + b.getD i 0 + c) % 65536]) ((a.getD i 0 + b.getD i 0 + c) / 65536)
    (by by_cases h4 : i < max a.length b.length
        ·omega
        have := hx (by omega); have := hy (by omega); omega)
    (by omega)
    (by by_cases h4 : i < max a.length b.length
        ·omega
        have := hx (by omega); have := hy (by omega); omega)
    (by simp; omega)
    (Dig.append.2 ⟨hd, by rw [Dig.cons]; exact ⟨by omega, Dig.nil⟩⟩) (by omega)
    (by rw [val_snoc, ho, val_take_getD, val_take_getD, Int.pow_succ]; exact add_step _ c _ _ _ _ _ _ _ _ (by omega) hv)
   refine ⟨r, ⟨K + 2, fun k hk => ?_⟩, hq⟩
   obtain ⟨k, rfl⟩ : ∃ j, k = j + 2 := ⟨k - 2, by omega⟩
   show tribunalref02_addD.l0 (k + 2) a b out c (i : Int) = some r
   rw [addD_step k a b out c i h (by omega) (by omega) (by omega) ho da db hc]
   exact hr k (by omega)
  refine ⟨out, ⟨2, fun k hk => ?_⟩, hd, ?_, by omega⟩
  ·obtain ⟨k, rfl⟩ : ∃ j, k = j + 2 := ⟨k - 2, by omega⟩
   exact addD_end k a b out c i (by omega) (by omega) (by omega)
  rw [List.take_of_length_le (by omega), List.take_of_length_le (by omega), show c = 0 from by omega] at hv
  omega
theorem addD_ev (a b : List Int) (ha : a.length ≤ 8388600) (hb : b.length ≤ 8388600) (da : Dig 65536 a) (db : Dig 65536 b) :
  ∃ r, Ev (fun k => tribunalref02_addD.f k a b) r ∧ Dig 65536 r ∧ val 65536 r = val 65536 a + val 65536 b ∧ r.length ≤ max a.length b.length + 1 := by
 obtain ⟨r, ⟨K, hr⟩, hq⟩ := addD_l0 a b ha hb da db _ 0 [] 0 (Nat.le_refl _) (by omega) (.inr rfl) rfl Dig.nil (by omega) (by simp [val])
 refine ⟨r, ⟨K, fun k hk => ?_⟩, hq⟩
 show tribunalref02_addD.f k a b = some r
 rw [tribunalref02_addD.f]
 exact hr k hk
theorem Make_ev (s : Bool) (l : List Int) (hl : l.length < 9223372036854775807) (hd : Dig 65536 l) : ∃ r, Ev (fun k => tribunalref02_Make.f k s l) (s && decide (0 < r.length), r) ∧ Dig 65536 r ∧ Top r ∧ val 65536 r = val 65536 l := by
 obtain ⟨r, ⟨K, hr⟩, h⟩ := tribunalref02_trim_ev (B := 65536) (l := l) hl hd
 refine ⟨r, ⟨K, fun k hk => ?_⟩, h⟩
 have hk' : tribunalref02_trim.f k l = some r := hr k hk
 show tribunalref02_Make.f k s l = _
 simp only [tribunalref02_Make.f, hk', Option.bind_some]
 cases s <;> simp
theorem told_same {n : Int} {s t : Bool} {l d : List Int} (h : Num 18446744073709551616 n s l) (g : Num 65536 n t d) (hd : d.length ≤ 8388608) :
  ∃ r, whole_number_told.f l s = some r ∧ Ev (fun k => tribunalref02_Out.f k t d) r ∧ r.2.1.length ≤ 8388608 := by
 have hl : l.length > 4096 ↔ d.length > 16384 := by
  obtain ⟨_, _, _, h⟩ := len_le h.rep.dig h.rep.top g.rep.dig g.rep.top (h.rep.val.trans g.rep.val.symm)
  exact h
 by_cases hc : l.length > 4096
 ·refine ⟨(false, [], 5), ?_, ⟨0, fun k _ => ?_⟩, by simp⟩
  ·simp only [whole_number_told.f, whole_number_long.f, Option.bind_some]
   rw [if_pos (by simp; omega)]
  show tribunalref02_Out.f k t d = _
  rw [tribunalref02_Out.f, if_pos (by have := hl.1 hc; omega)]
 obtain ⟨r, ⟨K, hr⟩, h1, h2, h3, _⟩ := To_ev d t hd g.rep.dig g.rep.top
 have e : r = l := h.rep.uniq (by decide) ⟨h1, h2, h3.trans g.rep.val⟩ |>.symm
 have es : t = s := g.sign.trans h.sign.symm
 subst e; subst es
 refine ⟨(t, r, 0), ?_, ⟨K, fun k hk => ?_⟩, by show r.length ≤ _; omega⟩
 ·simp only [whole_number_told.f, whole_number_long.f, Option.bind_some]
  rw [if_neg (by simp; omega)]
  rw [whole_number_out.f, api_Nat_uint64.f, if_pos (by omega), Option.bind_some, Option.bind_some]
 have hk' : tribunalref02_To.f k t d = some (t, r) := hr k hk
 show tribunalref02_Out.f k t d = _
 have : ¬ d.length > 16384 := fun x => hc (hl.2 x)
 rw [tribunalref02_Out.f, if_neg (by omega), hk', Option.bind_some]
theorem Make_num {v : Int} {l : List Int} (b : Bool) (hl : l.length < 9223372036854775807) (hd : Dig 65536 l) (hv : val 65536 l = v) {n : Int} (hn : n = if b then -v else v) : ∃ u r, Ev (fun k => tribunalref02_Make.f k b l) (u, r) ∧ Num 65536 n u r := by
 obtain ⟨r, h, h1, h2, h3⟩ := Make_ev b l hl hd
 exact ⟨_, r, h, Num.of_rep' (by decide) ⟨h1, h2, h3.trans hv⟩ b hn⟩
theorem rep_four {v : Int} (h : 0 ≤ v ∧ v < 18446744073709551616) (b : Bool) {n : Int} (hn : n = if b then -v else v) : ∃ u r, Ev (fun k => tribunalref02_Make.f k b [IntKind.u16.wrap v, IntKind.u16.wrap (v / 65536), IntKind.u16.wrap (v / 4294967296), IntKind.u16.wrap (v / 281474976710656)]) (u, r) ∧ Num 65536 n u r ∧ r.length ≤ 4 := by
 obtain ⟨hv4, hd4⟩ := limb4 v h
 obtain ⟨u, r, hr, hN⟩ := Make_num b (by simp) hd4 hv4 hn
 refine ⟨u, r, hr, hN, rep_len (by decide) hN.rep ?_⟩
 rw [← pow4]
 cases b <;> simp at hn <;> omega
theorem u64_neg {n : Int} (h : -9223372036854775808 ≤ n ∧ n < 0) : IntKind.u64.wrap (-(IntKind.u64.wrap n)) = -n := by
 simp only [IntKind.wrap_u64]; omega
theorem u64_pos {n : Int} (h : 0 ≤ n ∧ n ≤ 9223372036854775807) : IntKind.u64.wrap n = n := by
 simp only [IntKind.wrap_u64]; omega
theorem Small1_num {n : Int} (h : -9223372036854775808 ≤ n ∧ n ≤ 9223372036854775807) : ∃ u d, Ev (fun k => tribunalref02_Small1.f k n) (u, d) ∧ Num 65536 n u d ∧ d.length ≤ 4 := by
 by_cases h0 : n < 0
 ·obtain ⟨u, r, ⟨K, hr⟩, hN⟩ := rep_four (v := -n) (by omega) true (n := n) (by simp)
  refine ⟨u, r, ⟨K, fun k hk => ?_⟩, hN⟩
  have g := hr k hk
  show tribunalref02_Small1.f k n = _
  rw [tribunalref02_Small1.f, if_pos h0, u64_neg (by omega)]
  replace g : tribunalref02_Make.f k true _ = _ := g
  rw [g, Option.bind_some]
 obtain ⟨u, r, ⟨K, hr⟩, hN⟩ := rep_four (v := n) (by omega) false (n := n) (by simp)
 refine ⟨u, r, ⟨K, fun k hk => ?_⟩, hN⟩
 have g := hr k hk
 show tribunalref02_Small1.f k n = _
 rw [tribunalref02_Small1.f, if_neg h0, u64_pos (by omega)]
 replace g : tribunalref02_Make.f k false _ = _ := g
 rw [g, Option.bind_some]
theorem getD_set_ne (l : List Int) (i t : Nat) (v : Int) (h : i ≠ t) : (l.set i v).getD t 0 = l.getD t 0 := by
 simp [List.getD_eq_getElem?_getD, List.getElem?_set_ne h]
theorem step_arith {xy o c lo hi s1 s2 : Int} (hxy : 0 ≤ xy ∧ xy ≤ 18446744073709551615 * 18446744073709551615) (ho : 0 ≤ o ∧ o < 18446744073709551616) (hc : 0 ≤ c ∧ c < 18446744073709551616)
  (h1 : hi = xy / 18446744073709551616) (h2 : lo = xy % 18446744073709551616) (h3 : s1 = lo + o + 0) (h4 : s2 = s1 % 18446744073709551616 + c + 0) :
  IntKind.u64.wrap (IntKind.u64.wrap (hi + s1 / 18446744073709551616) + s2 / 18446744073709551616) * 18446744073709551616 + s2 % 18446744073709551616 = xy + o + c ∧
  0 ≤ IntKind.u64.wrap (IntKind.u64.wrap (hi + s1 / 18446744073709551616) + s2 / 18446744073709551616) ∧ IntKind.u64.wrap (IntKind.u64.wrap (hi + s1 / 18446744073709551616) + s2 / 18446744073709551616) < 18446744073709551616 := by
 simp only [IntKind.wrap_u64]
 have e1 : xy = hi * 18446744073709551616 + lo := by omega
 have e2 : s1 = (s1 / 18446744073709551616) * 18446744073709551616 + s1 % 18446744073709551616 := by omega
 have e3 : s2 = (s2 / 18446744073709551616) * 18446744073709551616 + s2 % 18446744073709551616 := by omega
 have lo1 : 0 ≤ s1 % 18446744073709551616 ∧ s1 % 18446744073709551616 < 18446744073709551616 := by omega
 generalize s1 / 18446744073709551616 = c1 at *
 generalize s1 % 18446744073709551616 = l1 at *
 generalize s2 / 18446744073709551616 = c2 at *
 have l2 : 0 ≤ s2 % 18446744073709551616 ∧ s2 % 18446744073709551616 < 18446744073709551616 := by omega
 generalize s2 % 18446744073709551616 = m2 at *
 have b : (hi + c1 + c2) * 18446744073709551616 + m2 = xy + o + c := by omega
 have lo0 : 0 ≤ hi := by omega
 have b1 : 0 ≤ c1 := by omega
 have b2 : 0 ≤ c2 := by omega
 have b3 : hi + c1 + c2 < 18446744073709551616 := by omega
 rw [Int.emod_eq_of_lt (a := hi + c1) (by omega) (by omega), Int.emod_eq_of_lt (by omega) (by omega)]
 exact ⟨b, by omega, b3⟩
theorem mstep (x y o c : Int) (hx : 0 ≤ x ∧ x < 18446744073709551616) (hy : 0 ≤ y ∧ y < 18446744073709551616) (ho : 0 ≤ o ∧ o < 18446744073709551616) (hc : 0 ≤ c ∧ c < 18446744073709551616) :
  ∃ hi lo t1 c1 lo2 c2 c', bits_Mul64.f x y = some (hi, lo) ∧ bits_Add64.f lo o 0 = some (t1, c1) ∧ bits_Add64.f t1 c 0 = some (lo2, c2) ∧ IntKind.u64.wrap (IntKind.u64.wrap (hi + c1) + c2) = c' ∧ (0 ≤ lo2 ∧ lo2 < 18446744073709551616) ∧ (0 ≤ c' ∧ c' < 18446744073709551616) ∧ c' * 18446744073709551616 + lo2 = x * y + o + c := by
 have hxy := mul_bound (x := x) (y := y) (M := 18446744073709551615) ⟨hx.1, by omega⟩ ⟨hy.1, by omega⟩
 obtain ⟨hs, hc1, hc2⟩ := step_arith hxy ho hc rfl rfl rfl rfl
 refine ⟨_, _, (x * y % 18446744073709551616 + o + 0) % 18446744073709551616, _, _, _, _, Mul64_eq x y hx hy, ?_, ?_, rfl, ?_, ⟨hc1, hc2⟩, hs⟩
 ·rw [bits_Add64.f, if_pos ⟨by omega, by omega, by omega, by omega⟩]
 ·rw [bits_Add64.f, if_pos ⟨by omega, by omega, by omega, by omega⟩]
 omega
structure Sh (s P Q : Int) : Prop where
 s0 : 0 ≤ s ∧ s ≤ 63
 P0 : 0 < P
 Q0 : 0 < Q
 PQ : P * Q = 18446744073709551616
 P1 : ∃ t : Nat, P = 2 ^ t ∧ s.toNat = t
 Q1 : ∃ t : Nat, Q = 2 ^ t ∧ 64 - s.toNat = t
theorem Sh.of (s : Int) (h : 0 ≤ s ∧ s ≤ 63) : ∃ P Q, Sh s P Q := by
 refine ⟨2 ^ s.toNat, 2 ^ (64 - s.toNat), h, Int.pow_pos (by decide), Int.pow_pos (by decide), ?_, ⟨_, rfl, rfl⟩, ⟨_, rfl, rfl⟩⟩
 rw [← Int.pow_add, show s.toNat + (64 - s.toNat) = 64 from by omega]
 decide
structure Half (y yn1 yn0 u d q r : Int) : Prop where
 hy : y = yn1 * 4294967296 + yn0
 y1 : 2147483648 ≤ yn1 ∧ yn1 < 4294967296
 y0 : 0 ≤ yn0 ∧ yn0 < 4294967296
 hu : 0 ≤ u ∧ u < y
 hd : 0 ≤ d ∧ d < 4294967296
 hq : 0 ≤ q ∧ q ≤ 4294967297
 hr : 0 ≤ r ∧ r < 4294967296
 hqr : u = q * yn1 + r
 top : u * 4294967296 + d < (q + 1) * y
theorem Half.below {y yn1 yn0 u d q r : Int} (h : Half y yn1 yn0 u d q r) : u * 4294967296 + d < 4294967296 * y := by
 have := h.hu; have := h.hd; omega
theorem step_wrap (i n : Nat) (hi : i < n) (hn : n ≤ 8388608) : wrap64 ((i : Int) + 1) = ((i + 1 : Nat) : Int) := by rw [w64 _ (by omega)]; omega
theorem mul_step (V c c' s x n X P B : Int) (hs : c' * B + s = x * n + c) (hv : V + c * P = X * n) : (V + s * P) + c' * (P * B) = (X + x * P) * n := by
 have h1 : c' * (P * B) + s * P = (c' * B + s) * P := by rw [Int.add_mul, Int.mul_assoc, Int.mul_comm P B]
 have h2 : x * P * n = x * n * P := by rw [Int.mul_assoc, Int.mul_comm P n, ← Int.mul_assoc]
 rw [hs, Int.add_mul] at h1
 rw [Int.add_mul, h2]
 omega
theorem timesD_step (k : Nat) (a out : List Int) (n c t : Int) (i : Nat) (hi : i < a.length) (hl : a.length ≤ 8388608) (ho : out.length = i) (ht : (c + a.getD i 0 % 4294967296 * n) % 4294967296 = t) :
  tribunalref02_timesD.l0 (k + 1) a n out c (i : Int) = tribunalref02_timesD.l0 k a n (out ++ [t % 65536]) (t / 65536) ((i + 1 : Nat) : Int) := by
 have hwr := step_wrap i a.length hi hl
 rw [tribunalref02_timesD.l0, if_pos (by omega), if_pos (by omega), if_pos (by omega), rd_getD, ht, hwr, IntKind.wrap_u16]
theorem timesD_l0 (a : List Int) (n : Int) (hn : 0 ≤ n ∧ n < 65536) (hl : a.length ≤ 8388608) (da : Dig 65536 a) : ∀ (m i : Nat) (out : List Int) (c : Int), i + m = a.length → out.length = i → Dig 65536 out → 0 ≤ c ∧ c < 65536 → val 65536 out + c * 65536 ^ i = val 65536 (a.take i) * n →
  ∃ r, Ev (fun k => tribunalref02_timesD.l0 k a n out c (i : Int)) r ∧ Rep 65536 (val 65536 a * n) r := by
 intro m
 induction m with
 | zero =>
  intro i out c hi ho hd hc hv
  obtain ⟨r, ⟨K, hr⟩, h1, h2, h3⟩ := tribunalref02_trim_ev (B := 65536) (l := out ++ [c]) (by simp; omega) (Dig.append.2 ⟨hd, by rw [Dig.cons]; exact ⟨hc, Dig.nil⟩⟩)
  refine ⟨r, ⟨K + 1, fun k hk => ?_⟩, h1, h2, ?_⟩
  ·obtain ⟨k, rfl⟩ : ∃ j, k = j + 1 := ⟨k - 1, by omega⟩
   have hk' : tribunalref02_trim.f k (out ++ [c]) = some r := hr k (by omega)
   have hw : IntKind.u16.wrap c = c := by rw [IntKind.wrap_u16]; omega
   show tribunalref02_timesD.l0 (k + 1) a n out c (i : Int) = some r
   rw [tribunalref02_timesD.l0, if_neg (by omega), if_pos (by omega), hw, hk', Option.bind_some]
  rw [h3, val_snoc, ho, hv, show i = a.length from by omega, List.take_length]
 | succ m ih =>
  intro i out c hi ho hd hc hv
  have hil : i < a.length := by omega
  have ga := getD_dig (by decide) da i
  have hb := mul_bound (M := 65535) (x := a.getD i 0) (y := n) (by omega) (by omega)
  have ht : (c + a.getD i 0 % 4294967296 * n) % 4294967296 = a.getD i 0 * n + c := by
   rw [Int.emod_eq_of_lt ga.1 (by omega)]
   generalize a.getD i 0 * n = p at *
   omega
  obtain ⟨r, ⟨K, hr⟩, hq⟩ := ih (i + 1) (out ++ [(a.getD i 0 * n + c) % 65536]) ((a.getD i 0 * n + c) / 65536) (by omega) (by simp; omega)
   (Dig.append.2 ⟨hd, by rw [Dig.cons]; exact ⟨by omega, Dig.nil⟩⟩) (by generalize a.getD i 0 * n = p at *; omega)
   (by rw [val_snoc, ho, val_take_getD, Int.pow_succ]; exact mul_step _ c _ _ _ _ _ _ _ (by omega) hv)
  refine ⟨r, ⟨K + 1, fun k hk => ?_⟩, hq⟩
  obtain ⟨k, rfl⟩ : ∃ j, k = j + 1 := ⟨k - 1, by omega⟩
  show tribunalref02_timesD.l0 (k + 1) a n out c (i : Int) = some r
  rw [timesD_step k a out n c _ i hil hl ho ht]
  exact hr k (by omega)
theorem timesD_ev (a : List Int) (n : Int) (hn : 0 ≤ n ∧ n < 65536) (hl : a.length ≤ 8388608) (da : Dig 65536 a) :
  ∃ r, Ev (fun k => tribunalref02_timesD.f k a n) r ∧ Rep 65536 (val 65536 a * n) r := by
 obtain ⟨r, ⟨K, hr⟩, hq⟩ := timesD_l0 a n hn hl da a.length 0 [] 0 (by omega) rfl Dig.nil (by omega) (by simp [val])
 refine ⟨r, ⟨K, fun k hk => ?_⟩, hq⟩
 show tribunalref02_timesD.f k a n = some r
 rw [tribunalref02_timesD.f]
 exact hr k hk
theorem rMake_rep {v : Int} {l : List Int} (h : Rep 65536 v l) (hl : l.length ≤ 8388608) (b : Bool) {n : Int} (hn : n = if b then -v else v) : ∃ u r, Ev (fun k => tribunalref02_Make.f k b l) (u, r) ∧ Num 65536 n u r := by
 obtain ⟨r, hE, h1, h2, h3⟩ := Make_ev b l (by omega) h.dig
 exact ⟨_, r, hE, Num.of_rep' (by decide) ⟨h1, h2, h3.trans h.val⟩ b hn⟩
theorem inv_step (V c c' lo2 o X x y P R W B : Int) (hs : c' * B + lo2 = x * y + o + c) (hv : V + c * (P * R) = X + x * P * W) : (V + (lo2 - o) * (P * R)) + c' * (P * R * B) = X + x * P * (W + y * R) := by
 have e : c' * B = x * y + o + c - lo2 := by omega
 have : c' * (P * R * B) = (c' * B) * (P * R) := by grind
 rw [this, e]
 grind
theorem inv_exit (V c X x P R W : Int) (hv : V + c * (P * R) = X + x * P * W) : V + (c - 0) * (P * R) = X + x * P * W := by rw [Int.sub_zero]; exact hv
theorem l1_step (k : Nat) (b out a : List Int) (i j x c n1 n2 p hi lo t1 c1 lo2 c2 : Int) (h1 : j < n2) (h2 : 0 ≤ j) (h3 : j < (b.length : Int)) (h4 : bits_Mul64.f x (rd b j) = some (hi, lo)) (h5 : wrap64 (i + j) = p) (h6 : 0 ≤ p) (h7 : p < (out.length : Int)) (h8 : bits_Add64.f lo (rd out p) 0 = some (t1, c1)) (h9 : bits_Add64.f t1 c 0 = some (lo2, c2)) :
  whole_amount_times.l1 (k + 1) b out i x c a n1 i b n2 j = whole_amount_times.l1 k b (out.set p.toNat lo2) i x (IntKind.u64.wrap (IntKind.u64.wrap (hi + c1) + c2)) a n1 i b n2 (wrap64 (j + 1)) := by
 rw [whole_amount_times.l1, if_pos h1, if_pos h2, if_pos h3, h4, Option.bind_some, h5, if_pos h6, if_pos h7, h8, Option.bind_some, h9, Option.bind_some]
theorem times_in (a b : List Int) (ha : a.length ≤ 1048576) (hb : b.length ≤ 1048576) (da : Dig 18446744073709551616 a) (db : Dig 18446744073709551616 b) (i : Nat) (hi : i < a.length) (X : Int) (Q : List Int → Prop)
  (cont : ∀ out, out.length = a.length + b.length → Dig 18446744073709551616 out → val 18446744073709551616 out = X + a[i] * 18446744073709551616 ^ i * val 18446744073709551616 b → (∀ t, i + 1 + b.length ≤ t → out.getD t 0 = 0) → ∃ r, Ev (fun k => whole_amount_times.l0 k b out a (a.length : Int) ((i : Int) + 1)) r ∧ Q r) :
  ∀ (m j : Nat) (out : List Int) (c : Int), j + m = b.length → out.length = a.length + b.length → Dig 18446744073709551616 out → 0 ≤ c ∧ c < 18446744073709551616 → val 18446744073709551616 out + c * 18446744073709551616 ^ (i + j) = X + a[i] * 18446744073709551616 ^ i * val 18446744073709551616 (b.take j) → (∀ t, i + b.length ≤ t → out.getD t 0 = 0) →
  ∃ r, Ev (fun k => whole_amount_times.l1 k b out (i : Int) a[i] c a (a.length : Int) (i : Int) b (b.length : Int) (j : Int)) r ∧ Q r := by
 intro m
 induction m with
 | zero =>
  intro j out c hj ho hd hc hv hz
  have hj' : j = b.length := by omega
  subst hj'
  have h0 : out[i + b.length]'(by omega) = 0 := by
   have := hz (i + b.length) (by omega)
   rwa [List.getD_eq_getElem?_getD, List.getElem?_eq_getElem (by omega), Option.getD_some] at this
  obtain ⟨r, ⟨K, hr⟩, hq⟩ := cont (out.set (i + b.length) c) (by simpa using ho) (hd.set _ hc)
   (by
    rw [List.take_length, Int.pow_add] at hv
    rw [val_set _ _ _ _ (by omega), h0, Int.pow_add]
    exact inv_exit _ _ _ _ _ _ _ hv)
   (fun t ht => by rw [getD_set_ne _ _ _ _ (by omega)]; exact hz t (by omega))
  refine ⟨r, ⟨K + 1, fun k hk => ?_⟩, hq⟩
  obtain ⟨k, rfl⟩ : ∃ j, k = j + 1 := ⟨k - 1, by omega⟩
  simp only [whole_amount_times.l1]
  rw [if_neg (by omega), w64 _ (by omega), if_pos (by omega), if_pos (by omega), w64 _ (by omega)]
  have := hr k (by omega)
  rw [show i + b.length = ((i : Int) + (b.length : Int)).toNat from by omega] at this
  with_reducible exact this
 | succ m ih =>
  intro j out c hj ho hd hc hv hz
  have hx := da.get i hi
  have hy := db.get j (by omega)
  have hp : i + j < out.length := by omega
  have hoo := hd.get (i + j) hp
  obtain ⟨h1, lo, t1, c1, lo2, c2, c', hm, ha1, ha2, hw, hlo, hcc, hs⟩ := mstep a[i] b[j] out[i + j] c hx hy hoo hc
  obtain ⟨r, ⟨K, hr⟩, hq⟩ := ih (j + 1) (out.set (i + j) lo2) c' (by omega) (by simpa using ho) (hd.set _ hlo) hcc
   (by
    rw [Int.pow_add] at hv
    rw [val_set _ _ _ _ hp, val_take_succ _ b j (by omega), show i + (j + 1) = (i + j) + 1 from by omega, Int.pow_succ, Int.pow_add]
    exact inv_step _ _ _ _ _ _ _ _ _ _ _ _ hs hv)
   (fun t ht => by rw [getD_set_ne _ _ _ _ (by omega)]; exact hz t ht)
  refine ⟨r, ⟨K + 1, fun k hk => ?_⟩, hq⟩
  obtain ⟨k, rfl⟩ : ∃ j, k = j + 1 := ⟨k - 1, by omega⟩
  have := hr k (by omega)
  show whole_amount_times.l1 (k + 1) b out (i : Int) a[i] c a (a.length : Int) (i : Int) b (b.length : Int) (j : Int) = some r
  rw [l1_step k b out a i j a[i] c a.length b.length (i + j : Nat) h1 lo t1 c1 lo2 c2 (by omega) (by omega) (by omega) (by rw [rd_nat b j (by omega)]; exact hm) (by rw [w64 _ (by omega)]; omega) (by omega) (by omega) (by rw [rd_nat out (i + j) hp]; exact ha1) ha2, hw, w64 _ (by omega), Int.toNat_natCast]
  rw [show ((j + 1 : Nat) : Int) = (j : Int) + 1 from by omega] at this
  with_reducible exact this
theorem times_out (a b : List Int) (ha : a.length ≤ 1048576) (hb : b.length ≤ 1048576) (da : Dig 18446744073709551616 a) (db : Dig 18446744073709551616 b) : ∀ (n i : Nat) (out : List Int), i + n = a.length → out.length = a.length + b.length → Dig 18446744073709551616 out → val 18446744073709551616 out = val 18446744073709551616 (a.take i) * val 18446744073709551616 b → (∀ t, i + b.length ≤ t → out.getD t 0 = 0) →
  ∃ r, Ev (fun k => whole_amount_times.l0 k b out a (a.length : Int) (i : Int)) r ∧ (Dig 18446744073709551616 r ∧ Top r ∧ val 18446744073709551616 r = val 18446744073709551616 a * val 18446744073709551616 b) := by
 intro n
 induction n with
 | zero =>
  intro i out hi ho hd hv hz
  obtain ⟨r, ⟨K, hr⟩, h1, h2, h3⟩ := whole_trimmed_ev (B := 18446744073709551616) (l := out) (by omega) hd
  refine ⟨r, ⟨K + 1, fun k hk => ?_⟩, h1, h2, by rw [h3, hv, show i = a.length from by omega, List.take_length]⟩
  obtain ⟨k, rfl⟩ : ∃ j, k = j + 1 := ⟨k - 1, by omega⟩
  show whole_amount_times.l0 (k + 1) b out a (a.length : Int) (i : Int) = some r
  have hk' : whole_trimmed.f k out = some r := hr k (by omega)
  rw [whole_amount_times.l0, if_neg (by omega), hk', Option.bind_some]
 | succ n ih =>
  intro i out hi ho hd hv hz
  have hil : i < a.length := by omega
  obtain ⟨r, ⟨K, hr⟩, hq⟩ := times_in a b ha hb da db i hil (val 18446744073709551616 (a.take i) * val 18446744073709551616 b) _ (fun out' h1 h2 h3 h4 => by
    have := ih (i + 1) out' (by omega) h1 h2 (by rw [h3, val_take_succ _ a i hil, Int.add_mul]) h4
    rwa [show ((i + 1 : Nat) : Int) = (i : Int) + 1 from by omega] at this) b.length 0 out 0 (by omega) ho hd ⟨by omega, by omega⟩ (by rw [hv]; simp [val]) hz
  refine ⟨r, ⟨K + 1, fun k hk => ?_⟩, hq⟩
  obtain ⟨k, rfl⟩ : ∃ j, k = j + 1 := ⟨k - 1, by omega⟩
  show whole_amount_times.l0 (k + 1) b out a (a.length : Int) (i : Int) = some r
  have := hr k (by omega)
  rw [show ((0 : Nat) : Int) = 0 from rfl] at this
  rw [whole_amount_times.l0, if_pos (by omega), if_pos (by omega), if_pos (by omega), rd_nat a i hil]
  with_reducible exact this
theorem times_ev (a b : List Int) (ha : a.length ≤ 1048576) (hb : b.length ≤ 1048576) (da : Dig 18446744073709551616 a) (db : Dig 18446744073709551616 b) :
  ∃ r, Ev (fun k => whole_amount_times.f k a b) r ∧ Dig 18446744073709551616 r ∧ Top r ∧ val 18446744073709551616 r = val 18446744073709551616 a * val 18446744073709551616 b := by
 obtain ⟨r, ⟨K, hr⟩, hq⟩ := times_out a b ha hb da db a.length 0 (List.replicate (a.length + b.length) 0) (by omega) (by simp) (Dig.rep (by decide) _) (by rw [val_replicate]; simp [val]) (fun t _ => by simp [List.getD_eq_getElem?_getD, List.getElem?_replicate]; split <;> rfl)
 refine ⟨r, ⟨K, fun k hk => ?_⟩, hq⟩
 show whole_amount_times.f k a b = some r
 have hw : wrap64 ((a.length : Int) + (b.length : Int)) = ((a.length + b.length : Nat) : Int) := by rw [w64 _ (by omega)]; omega
 rw [whole_amount_times.f, hw, Int.toNat_natCast, if_pos (by omega), if_pos (by omega)]
 exact hr k hk
end Go.Proofs.YtikencoikigllaaGreatDoor.PurePRy
namespace Go.Proofs.YtikencoikigllaaGreatDoor.PurePRy
set_option linter.unusedVariables false
set_option linter.unusedSimpArgs false
open Go.RowKit Go.Proofs.YtikencoikigllaaGreatDoorW.PrintWords Go.Proofs.YtikencoikigllaaGreatDoorW.PrintLast Go.Proofs.YtikencoikigllaaGreatDoorW.PrintMore Go.Proofs.YtikencoikigllaaGreatDoor.PRy Go.Proofs.YtikencoikigllaaGreatDoor Go.Proofs.YtikencoikigllaaGreatDoor.Mine Big
def AN (L : Nat) (n : Int) (s : Bool) (l : List Int) : Prop := ∃ a s1, Ev (fun k => whole_of.f k s l) (a, s1) ∧ Num 18446744073709551616 n s1 a ∧ a.length ≤ L
theorem of_num' {n : Int} {s : Bool} {r : List Int} (h : Num 18446744073709551616 n s r) (hl : r.length ≤ 1048576) : Ev (fun k => whole_of.f k s r) (r, s) := by
 obtain ⟨q, hq, _, h1, h2, h3⟩ := of_ev s r hl h.rep.dig
 have e : q = r := h.rep.uniq (by decide) ⟨h1, h2, h3.trans h.rep.val⟩ |>.symm
 subst e
 have e1 := h.sign
 have e2 := h.rep.pos_iff (by decide)
 have es : (s && decide (0 < q.length)) = s := by
  cases s
  ·rfl
  have hn : n < 0 := of_decide_eq_true e1.symm
  have := e2.2 (by omega)
  simp [this]
 rw [es] at hq
 exact hq
theorem AN.of {L : Nat} {n : Int} {s : Bool} {r : List Int} (h : Num 18446744073709551616 n s r) (hl : r.length ≤ L) (hL : L ≤ 1048576) : AN L n s r := ⟨r, s, of_num' h (by omega), h, hl⟩
theorem AN.up {L L' : Nat} {n : Int} {s : Bool} {l : List Int} (h : AN L n s l) (hL : L ≤ L') : AN L' n s l := by
 obtain ⟨a, s1, h1, h2, h3⟩ := h
 exact ⟨a, s1, h1, h2, by omega⟩
theorem told_ok (s : Bool) {l : List Int} (h : l.length ≤ 4096) : whole_number_told.f l s = some (s, l, 0) := by
 simp only [whole_number_told.f, whole_number_long.f, Option.bind_some]
 rw [if_neg (by simp; omega), whole_number_out.f, api_Nat_uint64.f, if_pos (by omega), Option.bind_some, Option.bind_some]
section
variable {L L' : Nat} {n m : Int} {s t : Bool} {l p : List Int}
theorem AN.add (h : AN L n s l) (g : AN L' m t p) (hL : L ≤ 4000) (hL' : L' ≤ 4000) : ∃ u q, Ev (fun k => whole_Add.f k s l t p) (u, q, 0) ∧ Num 18446744073709551616 (n + m) u q ∧ q.length ≤ max L L' + 1 := by
 obtain ⟨a, s1, ⟨K1, e1⟩, N1, l1⟩ := h
 obtain ⟨b, s2, ⟨K2, e2⟩, N2, l2⟩ := g
 obtain ⟨u, r, ⟨K3, e3⟩, N3⟩ := plus_num N1 N2 (by omega) (by omega)
 have hr := num_len (by decide) N1 N2 N3 (by omega) (L := max L L') (by omega) (by omega)
 refine ⟨u, r, ⟨K1 + K2 + K3, fun k hk => ?_⟩, N3, hr⟩
 have g1 : whole_of.f k s l = _ := e1 k (by omega)
 have g2 : whole_of.f k t p = _ := e2 k (by omega)
 have g3 : whole_number_plus.f k a s1 b s2 = _ := e3 k (by omega)
 show whole_Add.f k s l t p = _
 rw [whole_Add.f, g1, Option.bind_some, g2, Option.bind_some, g3, Option.bind_some, told_ok u (show r.length ≤ 4096 by omega), Option.bind_some]
theorem nil_num' (B : Int) : Num B 0 false [] := ⟨⟨Dig.nil, trivial, rfl⟩, rfl⟩
theorem AN.sign (h : AN L n s l) (hL : L ≤ 1048576) : Ev (fun k => whole_Sign.f k s l) (sg n) := by
 obtain ⟨a, s1, ⟨K1, e1⟩, N1, l1⟩ := h
 obtain ⟨K3, e3⟩ := cmp_num N1 (nil_num' _) (by omega) (by simp)
 refine ⟨K1 + K3, fun k hk => ?_⟩
 have g1 : whole_of.f k s l = _ := e1 k (by omega)
 have g3 : whole_number_cmp.f k a s1 [] false = _ := e3 k (by omega)
 show whole_Sign.f k s l = _
 rw [whole_Sign.f, g1, Option.bind_some, g3, Option.bind_some, Int.sub_zero]
theorem AN.zero : ∃ v q, Ev (fun k => whole_Of.f k 0) (v, q) ∧ Num 18446744073709551616 0 v q ∧ q.length ≤ 1 := by
 have e : whole_Of.f 5 0 = some (false, []) := by kernel_rfl
 exact ⟨false, [], Ev.of (fun k => whole_Of.mono 0 k) (k := 5) e, nil_num' _, by simp⟩
end
end Go.Proofs.YtikencoikigllaaGreatDoor.PurePRy
namespace Go.Proofs.YtikencoikigllaaGreatDoor.PurePRy
set_option linter.unusedVariables false
set_option linter.unusedSimpArgs false
open Go.RowKit Go.Proofs.YtikencoikigllaaGreatDoorW.PrintWords Go.Proofs.YtikencoikigllaaGreatDoorW.PrintLast Go.Proofs.YtikencoikigllaaGreatDoorW.PrintMore Go.Proofs.YtikencoikigllaaGreatDoor.PRy Go.Proofs.YtikencoikigllaaGreatDoor Go.Proofs.YtikencoikigllaaGreatDoor.Mine Big
def dv (a : Nat) (l : List UInt8) : Nat := l.foldl (fun a c => a * 10 + (c.toNat - 48)) a
theorem dv_nil (a : Nat) : dv a [] = a := rfl
theorem dv_cons (a : Nat) (c : UInt8) (r : List UInt8) : dv a (c :: r) = dv (a * 10 + (c.toNat - 48)) r := by
 unfold dv
 rw [List.foldl_cons]
def isD (c : UInt8) : Prop := 48 ≤ c.toNat ∧ c.toNat ≤ 57
instance (c : UInt8) : Decidable (isD c) := inferInstanceAs (Decidable (_ ∧ _))
theorem dv_app (x y : List UInt8) (a : Nat) : dv a (x ++ y) = dv (dv a x) y := by
 unfold dv
 rw [List.foldl_append]
theorem dv_lin : ∀ (l : List UInt8) (a : Nat), dv a l = a * 10 ^ l.length + dv 0 l
 | [], a => by rw [dv_nil, dv_nil]; simp
 | c :: r, a => by
  rw [dv_cons, dv_lin r, dv_cons, dv_lin r (0 * 10 + _), List.length_cons, Nat.pow_succ, Nat.zero_mul, Nat.zero_add, Nat.add_mul, Nat.mul_assoc, Nat.mul_comm 10, Nat.add_assoc]
theorem dv_lt : ∀ (l : List UInt8), (∀ c ∈ l, isD c) → dv 0 l < 10 ^ l.length
 | [], _ => by rw [dv_nil]; simp
 | c :: r, h => by
  have h1 := dv_lt r (fun x hx => h x (List.mem_cons_of_mem _ hx))
  have h2 := h c List.mem_cons_self
  have h3 : c.toNat - 48 ≤ 9 := by have := h2.2; omega
  rw [dv_cons, dv_lin, List.length_cons, Nat.pow_succ, Nat.zero_mul, Nat.zero_add]
  have := Nat.mul_le_mul_right (10 ^ r.length) h3
  omega
theorem dv_zeros : ∀ (l : List UInt8), dv 0 (l.dropWhile ([48].contains ·)) = dv 0 l
 | [] => rfl
 | c :: r => by
  by_cases h : c = 48
  ·subst h
   rw [List.dropWhile_cons_of_pos (by decide), dv_zeros r, dv_cons]; rfl
  rw [List.dropWhile_cons_of_neg (by simpa using h)]
theorem parse_dv : ∀ (l : List UInt8) (a : Nat), (∀ c ∈ l, isD c) → (a + 1) * 10 ^ l.length ≤ 10 ^ 18 → Lib.parseUint10 a l = .ok (dv a l)
 | [], a, _, _ => rfl
 | c :: r, a, h, hl => by
  have h2 := h c List.mem_cons_self
  have h3 : c.toNat - 48 ≤ 9 := by have := h2.2; omega
  rw [List.length_cons, Nat.pow_succ] at hl
  have hp : 1 ≤ 10 ^ r.length := Nat.pow_pos (by decide)
  have h4 : (a * 10 + (c.toNat - 48) + 1) * 10 ^ r.length ≤ 10 ^ 18 := by
   refine Nat.le_trans (Nat.mul_le_mul_right _ (show a * 10 + (c.toNat - 48) + 1 ≤ (a + 1) * 10 by omega)) ?_
   rw [Nat.mul_assoc, Nat.mul_comm 10]
   exact hl
  have h5 : (a * 10 + (c.toNat - 48) + 1) ≤ 10 ^ 18 := Nat.le_trans (Nat.le_mul_of_pos_right _ hp) h4
  have h6 : (10 : Nat) ^ 18 = 1000000000000000000 := by decide
  rw [Lib.parseUint10, if_pos (show 48 ≤ c.toNat ∧ c.toNat ≤ 57 from h2), if_neg (by omega), if_neg (by omega), parse_dv r _ (fun x hx => h x (List.mem_cons_of_mem _ hx)) h4, dv_cons]
theorem isD_mem (c : UInt8) : isD c ↔ ([48, 49, 50, 51, 52, 53, 54, 55, 56, 57] : List UInt8).contains c = true := by
 have h : ∀ n : Fin 256, (48 ≤ n.val ∧ n.val ≤ 57) ↔ ([48, 49, 50, 51, 52, 53, 54, 55, 56, 57] : List UInt8).contains (UInt8.ofNat n.val) = true := by decide +kernel
 have := h ⟨c.toNat, c.toNat_lt⟩
 simpa [isD] using this
theorem dropWhile_nil {p : UInt8 → Bool} : ∀ {l : List UInt8}, l.dropWhile p = [] ↔ ∀ c ∈ l, p c = true
 | [] => by simp
 | c :: r => by
  by_cases h : p c = true
  ·rw [List.dropWhile_cons_of_pos h, dropWhile_nil]
   simp [h]
  rw [List.dropWhile_cons_of_neg h]
  simp [h]
theorem trim_nil (l : List UInt8) : Lib.trimS l [48, 49, 50, 51, 52, 53, 54, 55, 56, 57] = [] ↔ ∀ c ∈ l, isD c := by
 unfold Lib.trimS Lib.trimLeftS Lib.trimRightS
 rw [dropWhile_nil]
 constructor
 ·intro h
  have h2 : (l.reverse.dropWhile (([48, 49, 50, 51, 52, 53, 54, 55, 56, 57] : List UInt8).contains ·)) = [] := by
   rcases hd : l.reverse.dropWhile (([48, 49, 50, 51, 52, 53, 54, 55, 56, 57] : List UInt8).contains ·) with _ | ⟨c, r⟩
   ·rfl
   exfalso
   have h1 := h c (by rw [hd]; simp)
   have h3 := List.head_dropWhile_not (([48, 49, 50, 51, 52, 53, 54, 55, 56, 57] : List UInt8).contains ·) (l := l.reverse) (by rw [hd]; simp)
   simp only [hd, List.head_cons] at h3
   rw [h1] at h3
   cases h3
  rw [dropWhile_nil] at h2
  exact fun c hc => (isD_mem c).2 (h2 c (List.mem_reverse.2 hc))
 intro h c hc
 rw [List.mem_reverse] at hc
 exact (isD_mem c).1 (h c (List.mem_reverse.1 (List.dropWhile_subset _ hc)))
def ba (l : List UInt8) : ByteArray := ⟨l.toArray⟩
theorem ba_of (s : ByteArray) : ba s.data.toList = s := by cases s; simp [ba]
theorem ba_size (l : List UInt8) : (ba l).size = l.length := by show l.toArray.size = _; simp
theorem ba_data (l : List UInt8) : (ba l).data.toList = l := rfl
theorem ba_toList (l : List UInt8) : (ba l).toList = l := by rw [Lib.toList_data]; rfl
theorem ba_extract (l : List UInt8) (a b : Nat) : (ba l).extract a b = ba ((l.drop a).take (b - a)) := by
 have h := Lib.extract_toList (ba l) a b
 rw [Lib.toList_data] at h
 rw [← ba_of ((ba l).extract a b), h]; rfl
theorem bt_ba (l : List UInt8) (i : Nat) (hi : i < l.length) : bt (ba l) (i : Int) = (l[i].toNat : Int) := by
 unfold bt
 rw [dif_pos (by rw [ba_size, Int.toNat_natCast]; exact hi)]
 rfl
theorem dv_snoc (l : List UInt8) (i : Nat) (hi : i < l.length) : dv 0 (l.take (i + 1)) = dv 0 (l.take i) * 10 + (l[i].toNat - 48) := by
 rw [List.take_succ_eq_append_getElem hi, dv_app, dv_cons, dv_nil]
theorem ten_le (i : Nat) : (10 : Nat) ^ i ≤ 65536 ^ i := Nat.pow_le_pow_left (by decide) i
theorem dv_len {l : List UInt8} (h : ∀ c ∈ l, isD c) {s : Bool} {d : List Int} (N : Num 65536 ((dv 0 l : Nat) : Int) s d) : d.length ≤ l.length := by
 refine rep_len (by decide) N.rep ?_
 have h1 := dv_lt l h
 have h2 := ten_le l.length
 rw [Int.natAbs_natCast]
 have : ((dv 0 l : Nat) : Int) < ((65536 ^ l.length : Nat) : Int) := by exact_mod_cast Nat.lt_of_lt_of_le h1 h2
 simpa using this
theorem pow_up {B : Int} (hB : 1 ≤ B) {a b : Nat} (h : a ≤ b) : B ^ a ≤ B ^ b := by
 obtain ⟨c, rfl⟩ := Nat.exists_eq_add_of_le h
 rw [Int.pow_add]
 have h1 := pow_pos (B := B) (by omega) a
 have h2 := pow_pos (B := B) (by omega) c
 have := Int.mul_le_mul_of_nonneg_left (show (1 : Int) ≤ B ^ c by omega) (Int.le_of_lt h1)
 omega
theorem Read_ok (l : List UInt8) (hl : l.length ≤ 1000000) (hd : ∀ c ∈ l, isD c) : ∀ (n i : Nat), i + n = l.length → ∀ k, tribunalref02_Read.l0 (k + n + 1) (ba l) (i : Int) false = tribunalref02_Read.l1 k (ba l) 0 false [] := by
 intro n
 induction n with
 | zero =>
  intro i hi k
  rw [tribunalref02_Read.l0, if_neg (by rw [ba_size]; omega)]
 | succ n ih =>
  intro i hi k
  have hlt : i < l.length := by omega
  have hc := hd l[i] (List.getElem_mem hlt)
  rw [show k + (n + 1) + 1 = (k + n + 1) + 1 from by omega, tribunalref02_Read.l0, if_pos (by rw [ba_size]; omega), if_pos (by omega), bt_ba l i hlt, if_neg (by have := hc.1; omega), if_neg (by have := hc.2; omega), w64 _ (by omega)]
  exact ih (i + 1) (by omega) k
theorem Read_bad (l : List UInt8) (hl : l.length ≤ 1000000) : ∀ (n i : Nat), i + n = l.length → ¬ (∀ c ∈ l.drop i, isD c) → ∀ k, n < k → tribunalref02_Read.l0 k (ba l) (i : Int) false = some (false, [], false) := by
 intro n
 induction n with
 | zero =>
  intro i hi h
  exact absurd (fun c hc => by rw [List.drop_eq_nil_of_le (by omega)] at hc; cases hc) h
 | succ n ih =>
  intro i hi h k hk
  obtain ⟨k, rfl⟩ : ∃ j, k = j + 1 := ⟨k - 1, by omega⟩
  have hlt : i < l.length := by omega
  rw [tribunalref02_Read.l0, if_pos (by rw [ba_size]; omega), if_pos (by omega), bt_ba l i hlt]
  by_cases hc : isD l[i]
  ·rw [if_neg (by have := hc.1; omega), if_neg (by have := hc.2; omega), w64 _ (by omega)]
   refine ih (i + 1) (by omega) (fun g => h fun c hm => ?_) k (by omega)
   rw [List.drop_eq_getElem_cons hlt] at hm
   rcases List.mem_cons.1 hm with rfl | hm
   ·exact hc
   exact g c hm
  by_cases h1 : (l[i].toNat : Int) < 48
  ·rw [if_pos h1]
  rw [if_neg h1, if_pos (by
   have : ¬ (48 ≤ l[i].toNat ∧ l[i].toNat ≤ 57) := hc
   omega)]
theorem Read_l1 (l : List UInt8) (hl : l.length ≤ 1000000) (hd : ∀ c ∈ l, isD c) : ∀ (n i : Nat) (d : List Int), i + n = l.length → Num 65536 ((dv 0 (l.take i) : Nat) : Int) false d →
  ∃ D, Ev (fun k => tribunalref02_Read.l1 k (ba l) (i : Int) false d) (false, D, decide (0 < l.length)) ∧ Num 65536 ((dv 0 l : Nat) : Int) false D := by
 intro n
 induction n with
 | zero =>
  intro i d hi N
  rw [show l.take i = l from List.take_of_length_le (by omega)] at N
  refine ⟨d, ⟨1, fun k hk => ?_⟩, N⟩
  obtain ⟨k, rfl⟩ : ∃ j, k = j + 1 := ⟨k - 1, by omega⟩
  show tribunalref02_Read.l1 (k + 1) (ba l) (i : Int) false d = _
  rw [tribunalref02_Read.l1, if_neg (by rw [ba_size]; omega), ba_size]
 | succ n ih =>
  intro i d hi N
  have hlt : i < l.length := by omega
  have hc := hd l[i] (List.getElem_mem hlt)
  have hld := dv_len (fun c hm => hd c (List.mem_of_mem_take hm)) N
  rw [List.length_take, Nat.min_eq_left (by omega)] at hld
  obtain ⟨t, ⟨K1, e1⟩, R1⟩ := timesD_ev d 10 (by omega) (by omega) N.rep.dig
  obtain ⟨u, e, ⟨K2, e2⟩, N2, l2⟩ := Small1_num (n := ((l[i].toNat - 48 : Nat) : Int)) (by have := hc.2; omega)
  have lt1 : t.length ≤ l.length + 1 := by
   refine rep_len (by decide) R1 ?_
   have h1 := N.rep.lt (by decide)
   rw [N.rep.val]
   have h2 : (65536 : Int) ^ d.length * 65536 ≤ 65536 ^ l.length * 65536 := Int.mul_le_mul_of_nonneg_right (pow_up (by decide) (by omega : d.length ≤ l.length)) (by decide)
   rw [Int.pow_succ]
   omega
  obtain ⟨r, ⟨K3, e3⟩, D3, V3, l3⟩ := addD_ev t e (by omega) (by omega) R1.dig N2.rep.dig
  obtain ⟨x, ⟨K4, e4⟩, D4, T4, V4⟩ := Make_ev false r (by omega) D3
  have NN : Num 65536 ((dv 0 (l.take (i + 1)) : Nat) : Int) false x := by
   refine ⟨⟨D4, T4, ?_⟩, (decide_eq_false (by omega)).symm⟩
   rw [V4, V3, R1.val, N2.rep.val, N.rep.val, dv_snoc l i hlt]
   omega
  obtain ⟨D, ⟨K5, e5⟩, ND⟩ := ih (i + 1) x (by omega) NN
  refine ⟨D, ⟨K1 + K2 + K3 + K4 + K5 + 1, fun k hk => ?_⟩, ND⟩
  obtain ⟨k, rfl⟩ : ∃ j, k = j + 1 := ⟨k - 1, by omega⟩
  have g1 : tribunalref02_timesD.f k d 10 = _ := e1 k (by omega)
  have g2 : tribunalref02_Small1.f k ((l[i].toNat - 48 : Nat) : Int) = _ := e2 k (by omega)
  have g3 : tribunalref02_addD.f k t e = _ := e3 k (by omega)
  have g4 : tribunalref02_Make.f k false r = _ := e4 k (by omega)
  have g5 : tribunalref02_Read.l1 k (ba l) ((i + 1 : Nat) : Int) false x = _ := e5 k (by omega)
  have hcc : ((l[i].toNat : Int) - 48) % 256 = ((l[i].toNat - 48 : Nat) : Int) := by have := hc.1; have := hc.2; omega
  show tribunalref02_Read.l1 (k + 1) (ba l) (i : Int) false d = _
  rw [tribunalref02_Read.l1, if_pos (by rw [ba_size]; omega), g1, Option.bind_some, if_pos (by omega), bt_ba l i hlt, hcc, g2, Option.bind_some]
  dsimp only
  rw [g3, Option.bind_some, g4, Option.bind_some, w64 _ (by omega)]
  exact g5
theorem Read_ev (l : List UInt8) (hl : l.length ≤ 1000000) : ((∀ c ∈ l, isD c) ∧ ∃ D, Ev (fun k => tribunalref02_Read.f k (ba l)) (false, D, decide (0 < l.length)) ∧ Num 65536 ((dv 0 l : Nat) : Int) false D) ∨ (¬ (∀ c ∈ l, isD c) ∧ Ev (fun k => tribunalref02_Read.f k (ba l)) (false, [], false)) := by
 by_cases h : ∀ c ∈ l, isD c
 ·refine .inl ⟨h, ?_⟩
  obtain ⟨D, ⟨K, e⟩, N⟩ := Read_l1 l hl h l.length 0 [] (by omega) (by rw [List.take_zero, dv_nil]; exact nil_num' _)
  refine ⟨D, ⟨K + l.length + 1, fun k hk => ?_⟩, N⟩
  obtain ⟨j, rfl⟩ : ∃ j, k = j + l.length + 1 := ⟨k - l.length - 1, by omega⟩
  show tribunalref02_Read.f (j + l.length + 1) (ba l) = _
  rw [tribunalref02_Read.f]
  refine (Read_ok l hl h l.length 0 (by omega) j).trans ?_
  exact e j (by omega)
 refine .inr ⟨h, ⟨l.length + 1, fun k hk => ?_⟩⟩
 show tribunalref02_Read.f k (ba l) = _
 rw [tribunalref02_Read.f]
 exact Read_bad l hl l.length 0 (by omega) (by rwa [List.drop_zero]) k (by omega)
theorem mn_eq (n : Nat) : mn 18 (n : Int) = ((min 18 n : Nat) : Int) := by
 unfold mn
 split <;> omega
theorem u64_small {x : Int} (h : 0 ≤ x ∧ x < 18446744073709551616) : IntKind.u64.wrap x = x := by
 rw [show IntKind.u64.wrap x = x % 18446744073709551616 from by simp [IntKind.wrap, IntKind.bits, IntKind.signed]]
 omega
theorem ten_small {j : Nat} (h : j ≤ 18) : (0 : Int) ≤ 10 ^ j ∧ (10 : Int) ^ j ≤ 1000000000000000000 := by
 have h1 := pow_pos (B := 10) (by decide) j
 have h2 : (10 : Int) ^ j ≤ 10 ^ 18 := pow_up (by decide) h
 have h3 : (10 : Int) ^ 18 = 1000000000000000000 := by decide
 omega
theorem scale_l1 (x4 : ByteArray) (b : Bool) (m : List Int) (x7 p : Int) (n : Nat) (hn : n ≤ 18) : ∀ (i j : Nat), j + i = n → ∀ k, whole_Parse.l1 (k + i) x4 b m x7 p (10 ^ j) n j = whole_Parse.l1 k x4 b m x7 p (10 ^ n) n n := by
 intro i
 induction i with
 | zero =>
  intro j hj k
  obtain rfl : j = n := by omega
  rfl
 | succ i ih =>
  intro j hj k
  have h1 := ten_small (show j + 1 ≤ 18 by omega)
  rw [Int.pow_succ] at h1
  rw [show k + (i + 1) = (k + i) + 1 from by omega, whole_Parse.l1, if_pos (by omega), u64_small (by omega), w64 _ (by omega), ← Int.pow_succ]
  exact ih (j + 1) (by omega) k
theorem parseUint_ev {l : List UInt8} (h : ∀ c ∈ l, isD c) (h1 : l.length ≤ 18) (h0 : l ≠ []) : strconv_ParseUintG.f (ba l) 10 64 = some (((dv 0 l : Nat) : Int), none) := by
 have hp : (0 + 1) * 10 ^ l.length ≤ 10 ^ 18 := by
  rw [Nat.one_mul]
  exact Nat.pow_le_pow_right (by decide) h1
 have := parse_dv l 0 h hp
 unfold strconv_ParseUintG.f
 rw [ba_size, ba_data, if_pos ⟨rfl, rfl, by omega, h0⟩, this]
theorem rep_le {a b : Int} {x y : List Int} (h : Rep 18446744073709551616 a x) (g : Rep 18446744073709551616 b y) (hab : a ≤ b) : x.length ≤ y.length :=
 rep_len (by decide) h (Int.lt_of_le_of_lt hab (g.lt (by decide)))
theorem trimmed_one (p : Int) (hp : 0 ≤ p ∧ p < 18446744073709551616) : ∃ r, Ev (fun k => whole_trimmed.f k [p]) r ∧ Rep 18446744073709551616 p r ∧ r.length ≤ 1 := by
 obtain ⟨m, hm, he, ht, hv⟩ := whole_trimmed_l0 [p] (by simp) 1 2 (by simp) (by omega)
 have hd : Dig 18446744073709551616 [p] := by rw [Dig.cons]; exact ⟨hp, Dig.nil⟩
 refine ⟨[p].take m, Ev.of (fun k => whole_trimmed.mono [p] k) he, ⟨hd.take m, ht, ?_⟩, by rw [List.length_take]; simp; omega⟩
 rw [hv]
 simp [val]
theorem Parse_l0 (b : Bool) (W : Nat) (q : List Int) (hq : Rep 18446744073709551616 ((W : Nat) : Int) q) : ∀ (N : Nat) (r : List UInt8) (V : Nat) (m : List Int), r.length ≤ N → r.length ≤ 1000000 → (∀ c ∈ r, isD c) → Rep 18446744073709551616 ((V : Nat) : Int) m → m.length ≤ 4096 → W = V * 10 ^ r.length + dv 0 r →
  Ev (fun k => whole_Parse.l0 k (ba r) b m) (if q.length > 4096 then (false, [], 5) else (b && decide (0 < q.length), q, 0)) := by
 intro N
 induction N with
 | zero =>
  intro r V m hN hr hd hm hl hW
  obtain rfl : r = [] := List.length_eq_zero_iff.1 (by omega)
  have hWV : W = V := by rw [hW, dv_nil]; simp
  obtain rfl := hq.uniq (by decide) (by rw [hWV]; exact hm)
  refine ⟨1, fun k hk => ?_⟩
  obtain ⟨k, rfl⟩ : ∃ j, k = j + 1 := ⟨k - 1, by omega⟩
  show whole_Parse.l0 (k + 1) (ba []) b q = _
  rw [whole_Parse.l0, ba_toList, if_pos rfl, signed_eq, Option.bind_some, told_ok _ hl, Option.bind_some, if_neg (by omega)]
 | succ N ih =>
  intro r V m hN hr hd hm hl hW
  by_cases hr0 : r = []
  ·subst hr0
   have hWV : W = V := by rw [hW, dv_nil]; simp
   obtain rfl := hq.uniq (by decide) (by rw [hWV]; exact hm)
   refine ⟨1, fun k hk => ?_⟩
   obtain ⟨k, rfl⟩ : ∃ j, k = j + 1 := ⟨k - 1, by omega⟩
   show whole_Parse.l0 (k + 1) (ba []) b q = _
   rw [whole_Parse.l0, ba_toList, if_pos rfl, signed_eq, Option.bind_some, told_ok _ hl, Option.bind_some, if_neg (by omega)]
  have hpos := List.length_pos_iff.2 hr0
  obtain ⟨n, hn⟩ : ∃ n, n = min 18 r.length := ⟨_, rfl⟩
  have hd1 : ∀ c ∈ r.take n, isD c := fun c hc => hd c (List.mem_of_mem_take hc)
  have hd2 : ∀ c ∈ r.drop n, isD c := fun c hc => hd c (List.mem_of_mem_drop hc)
  have hl1 : (r.take n).length = n := by rw [List.length_take]; omega
  have hl2 : (r.drop n).length = r.length - n := List.length_drop
  have hp := dv_lt _ hd1
  rw [hl1] at hp
  have h10 := ten_small (show n ≤ 18 by omega)
  have hpI : ((dv 0 (r.take n) : Nat) : Int) < 10 ^ n := by
   have : ((dv 0 (r.take n) : Nat) : Int) < ((10 ^ n : Nat) : Int) := Int.ofNat_lt.2 hp
   simpa using this
  have g1 := parseUint_ev hd1 (by omega) (fun h => by rw [h] at hl1; simp at hl1; omega)
  obtain ⟨t, ⟨K2, e2⟩, D2, T2, V2⟩ := times_ev m [10 ^ n] (by omega) (by simp) hm.dig (by rw [Dig.cons]; exact ⟨by omega, Dig.nil⟩)
  obtain ⟨p, ⟨K3, e3⟩, R3, l3⟩ := trimmed_one ((dv 0 (r.take n) : Nat) : Int) (by omega)
  have ht : t.length ≤ 4097 := by
   refine rep_len (by decide) (⟨D2, T2, rfl⟩ : Rep 18446744073709551616 _ t) ?_
   rw [V2, hm.val]
   have h1 := hm.lt (by decide)
   have h2 : (18446744073709551616 : Int) ^ m.length ≤ 18446744073709551616 ^ 4096 := pow_up (by decide) hl
   have h3 : val 18446744073709551616 [(10 : Int) ^ n] = 10 ^ n := by simp [val]
   rw [h3, Int.pow_succ]
   have h0 : (0 : Int) ≤ (V : Int) := by omega
   have h4 : (V : Int) * 10 ^ n ≤ V * 1000000000000000000 := Int.mul_le_mul_of_nonneg_left h10.2 h0
   generalize (18446744073709551616 : Int) ^ 4096 = Z at *
   omega
  obtain ⟨x, ⟨K4, e4⟩, R4⟩ := plus_ev t p (by omega) (by omega) D2 R3.dig
  have RX : Rep 18446744073709551616 ((V * 10 ^ n + dv 0 (r.take n) : Nat) : Int) x := by
   rw [V2, R3.val, hm.val, show val 18446744073709551616 [(10 : Int) ^ n] = 10 ^ n from by simp [val]] at R4
   simpa using R4
  have hWX : W = (V * 10 ^ n + dv 0 (r.take n)) * 10 ^ (r.drop n).length + dv 0 (r.drop n) := by
   rw [hW]
   have e1 : dv 0 r = dv 0 (r.take n) * 10 ^ (r.drop n).length + dv 0 (r.drop n) := by
    rw [← dv_lin, ← dv_app, List.take_append_drop]
   have e2 : 10 ^ r.length = 10 ^ n * 10 ^ (r.drop n).length := by
    rw [← Nat.pow_add, hl2]; congr 1; omega
   rw [e1, e2, Nat.add_mul, Nat.mul_assoc, Nat.add_assoc]
  have hle : V * 10 ^ n + dv 0 (r.take n) ≤ W := by
   rw [hWX]
   exact Nat.le_trans (Nat.le_mul_of_pos_right _ (Nat.pow_pos (by decide))) (Nat.le_add_right _ _)
  have hxq := rep_le RX hq (Int.ofNat_le.2 hle)
  have step : ∀ k, K2 + K3 + K4 ≤ k → whole_Parse.l0 (k + n + 2) (ba r) b m = if (x.length : Int) > 4096 then some (false, [], 5) else whole_Parse.l0 k (ba (r.drop n)) b x := by
   intro k hk
   have k2 : whole_amount_times.f k m [10 ^ n] = _ := e2 k (by omega)
   have k3 : whole_trimmed.f k [((dv 0 (r.take n) : Nat) : Int)] = _ := e3 k (by omega)
   have k4 : whole_amount_plus.f k t p = _ := e4 k (by omega)
   rw [show k + n + 2 = (k + 1 + n) + 1 from by omega, whole_Parse.l0, ba_toList, if_neg hr0, ba_size, mn_eq, ← hn, if_pos (by omega), if_pos (by omega), ba_extract, Int.toNat_natCast, List.drop_zero, Nat.sub_zero, g1, Option.bind_some]
   dsimp only
   have := scale_l1 (ba r) b m (n : Int) ((dv 0 (r.take n) : Nat) : Int) n (by omega) n 0 (by omega) (k + 1)
   rw [show ((10 : Int) ^ 0) = 1 from rfl] at this
   refine this.trans ?_
   rw [whole_Parse.l1, if_neg (by omega), k2, Option.bind_some, k3, Option.bind_some, k4, Option.bind_some]
   by_cases hx : (x.length : Int) > 4096
   ·rw [if_pos hx, if_pos hx]
   rw [if_neg hx, if_neg hx, ba_size, if_pos (by omega), if_pos (by omega), ba_extract, Int.toNat_natCast, List.take_of_length_le (by rw [hl2]; omega)]
  by_cases hx : x.length > 4096
  ·rw [if_pos (by omega)]
   refine ⟨K2 + K3 + K4 + n + 2, fun k hk => ?_⟩
   obtain ⟨j, rfl⟩ : ∃ j, k = j + n + 2 := ⟨k - n - 2, by omega⟩
   exact (step j (by omega)).trans (if_pos (by omega))
  obtain ⟨K5, e5⟩ := ih (r.drop n) _ x (by omega) (by omega) hd2 RX (by omega) hWX
  refine ⟨K2 + K3 + K4 + K5 + n + 2, fun k hk => ?_⟩
  obtain ⟨j, rfl⟩ : ∃ j, k = j + n + 2 := ⟨k - n - 2, by omega⟩
  exact ((step j (by omega)).trans (if_neg (by omega))).trans (e5 j (by omega))
theorem told_eq' (s : Bool) (l : List Int) : whole_number_told.f l s = some (if l.length > 4096 then (false, [], 5) else (s, l, 0)) := by
 by_cases hc : l.length > 4096
 ·simp only [whole_number_told.f, whole_number_long.f, Option.bind_some]
  rw [if_pos (by simp; omega), if_pos hc]
 simp only [whole_number_told.f, whole_number_long.f, Option.bind_some]
 rw [if_neg (by simp; omega), if_neg hc, whole_number_out.f, api_Nat_uint64.f, if_pos (by omega), Option.bind_some, Option.bind_some]
theorem Parse_ev (L : List UInt8) (hL : L.length ≤ 1000000) (pre : Bool) (d : List UInt8) (hp : pre = Lib.hasPrefix L [45]) (hd : d = Lib.trimPrefix L [45]) (hdl : d.length ≤ 1000000) :
  ∃ z, Ev (fun k => whole_Parse.f k (ba L)) z ∧ Ev (fun k => tribunalref02_Parse.j1 k (ba d) pre) z ∧ z.2.1.length ≤ 8388608 ∧ (z.2.2 ≠ 13 → d ≠ [] ∧ (∀ c ∈ d, isD c) ∧ ∃ q, Rep 18446744073709551616 ((dv 0 d : Nat) : Int) q ∧ z = if q.length > 4096 then (false, [], 5) else (pre && decide (0 < q.length), q, 0)) := by
 have hc : strings_CutPrefixG.f (ba L) (⟨#[45]⟩ : ByteArray) = some (ba d, pre) := by rw [hp, hd]; rfl
 have hf : ∀ k, whole_Parse.f k (ba L) = if d = [] then whole_Parse.j0 k (ba d) pre true else whole_Parse.j0 k (ba d) pre (Lib.trimS d [48, 49, 50, 51, 52, 53, 54, 55, 56, 57] != []) := by
  intro k
  rw [whole_Parse.f, hc, Option.bind_some]
  dsimp only
  rw [ba_toList]
  by_cases h : d = []
  ·rw [if_pos h, if_pos h]
  rw [if_neg h, if_neg h, strings_TrimG.f, if_pos ⟨by rw [ba_size]; omega, rfl⟩, Option.bind_some, ba_data]
  show whole_Parse.j0 k (ba d) pre ((ba (Lib.trimS d [48, 49, 50, 51, 52, 53, 54, 55, 56, 57])).toList != []) = _
  rw [ba_toList]
 rcases Read_ev d hdl with ⟨hD, D, ⟨K1, e1⟩, N1⟩ | ⟨hD, ⟨K1, e1⟩⟩
 ·by_cases h0 : d = []
  ·subst h0
   refine ⟨(false, [], 13), ⟨1, fun k hk => ?_⟩, ⟨K1 + 1, fun k hk => ?_⟩, by simp, fun h => absurd rfl h⟩
   ·obtain ⟨k, rfl⟩ : ∃ j, k = j + 1 := ⟨k - 1, by omega⟩
    exact (hf (k + 1)).trans (by rw [if_pos rfl, whole_Parse.j0, if_pos rfl])
   obtain ⟨k, rfl⟩ : ∃ j, k = j + 1 := ⟨k - 1, by omega⟩
   have g1 : tribunalref02_Read.f k (ba []) = _ := e1 k (by omega)
   show tribunalref02_Parse.j1 (k + 1) (ba []) pre = _
   rw [tribunalref02_Parse.j1, g1, Option.bind_some]
   rfl
  have hpos := List.length_pos_iff.2 h0
  have hld := dv_len hD N1
  obtain ⟨q, _, R1, R2, R3, _, _⟩ := To_ev D false (by omega) N1.rep.dig N1.rep.top
  have R0 := N1.rep
  rw [Int.natAbs_natCast] at R0
  have RQ : Rep 18446744073709551616 ((dv 0 d : Nat) : Int) q := ⟨R1, R2, R3.trans R0.val⟩
  obtain ⟨u, D', ⟨K2, e2⟩, N2⟩ := rMake_rep R0 (by omega) pre rfl
  have N3 := Num.of_rep' (by decide) RQ pre rfl
  have hld' : D'.length ≤ d.length := by
   have : D' = D := by
    have h := N2.rep
    have : ((if pre = true then -((dv 0 d : Nat) : Int) else ((dv 0 d : Nat) : Int)).natAbs : Int) = ((dv 0 d : Nat) : Int) := by split <;> omega
    rw [this] at h
    exact h.uniq (by decide) R0
   rw [this]; exact hld
  obtain ⟨z, hz, ⟨K3, e3⟩, hzl⟩ := told_same N3 N2 (by omega)
  rw [told_eq'] at hz
  have hz' := (Option.some.inj hz).symm
  have hz0 : ∀ c ∈ Lib.trimLeftS d [48], isD c := fun c hc => hD c (List.dropWhile_subset _ hc)
  have hzl0 : (Lib.trimLeftS d [48]).length ≤ d.length := (List.dropWhile_suffix _).length_le
  obtain ⟨K4, e4⟩ := Parse_l0 pre (dv 0 d) q RQ d.length (Lib.trimLeftS d [48]) 0 [] hzl0 (by omega) hz0 ((nil_num' _).rep) (by simp) (by rw [Nat.zero_mul, Nat.zero_add]; exact (dv_zeros d).symm)
  refine ⟨z, ⟨K4 + 1, fun k hk => ?_⟩, ⟨K1 + K2 + K3 + 1, fun k hk => ?_⟩, hzl, fun _ => ⟨h0, hD, q, RQ, hz'⟩⟩
  ·obtain ⟨k, rfl⟩ : ∃ j, k = j + 1 := ⟨k - 1, by omega⟩
   refine (hf (k + 1)).trans ?_
   rw [if_neg h0, (trim_nil d).2 hD, show (([] : List UInt8) != []) = false from rfl, whole_Parse.j0, if_neg (by decide), strings_TrimLeftG.f, if_pos rfl, Option.bind_some, ba_data, hz']
   exact e4 k (by omega)
  obtain ⟨k, rfl⟩ : ∃ j, k = j + 1 := ⟨k - 1, by omega⟩
  have g1 : tribunalref02_Read.f k (ba d) = _ := e1 k (by omega)
  have g2 : tribunalref02_Make.f k pre D = _ := e2 k (by omega)
  have g3 : tribunalref02_Out.f k u D' = _ := e3 k (by omega)
  show tribunalref02_Parse.j1 (k + 1) (ba d) pre = _
  rw [tribunalref02_Parse.j1, g1, Option.bind_some]
  dsimp only
  rw [if_pos (decide_eq_true hpos), g2, Option.bind_some, g3, Option.bind_some]
 have h0 : d ≠ [] := fun h => hD (by rw [h]; intro c hc; cases hc)
 have hT : Lib.trimS d [48, 49, 50, 51, 52, 53, 54, 55, 56, 57] ≠ [] := fun h => hD ((trim_nil d).1 h)
 refine ⟨(false, [], 13), ⟨1, fun k hk => ?_⟩, ⟨K1 + 1, fun k hk => ?_⟩, by simp, fun h => absurd rfl h⟩
 ·obtain ⟨k, rfl⟩ : ∃ j, k = j + 1 := ⟨k - 1, by omega⟩
  refine (hf (k + 1)).trans ?_
  rw [if_neg h0, whole_Parse.j0, if_pos (by simpa using hT)]
 obtain ⟨k, rfl⟩ : ∃ j, k = j + 1 := ⟨k - 1, by omega⟩
 have g1 : tribunalref02_Read.f k (ba d) = _ := e1 k (by omega)
 show tribunalref02_Parse.j1 (k + 1) (ba d) pre = _
 rw [tribunalref02_Parse.j1, g1, Option.bind_some]
 rfl
theorem refParse_f (L : List UInt8) (hL : L.length ≤ 1000000) (k : Nat) : tribunalref02_Parse.f (k + 1) (ba L) = tribunalref02_Parse.j1 k (ba (Lib.trimPrefix L [45])) (Lib.hasPrefix L [45]) := by
 match L, hL with
 | [], _ =>
  rw [tribunalref02_Parse.f, if_neg (by rw [ba_size]; simp), tribunalref02_Parse.j0, if_neg (by decide)]
  rfl
 | c :: r, hL =>
  have hb : bt (ba (c :: r)) 0 = (c.toNat : Int) := bt_ba (c :: r) 0 (by simp)
  rw [tribunalref02_Parse.f, if_pos (by rw [ba_size, List.length_cons]; omega), if_pos (by rw [ba_size, List.length_cons]; omega), hb]
  by_cases hc : c = 45
  ·subst hc
   rw [show (((45 : UInt8).toNat : Int) == 45) = true from rfl, tribunalref02_Parse.j0, if_pos rfl, if_pos (by rw [ba_size, List.length_cons]; omega), ba_extract, ba_size]
   rw [show ((45 :: r : List UInt8).drop 1).take ((45 :: r : List UInt8).length - 1) = r from by simp]
   rfl
  have hne : ((c.toNat : Int) == 45) = false := by
   refine beq_eq_false_iff_ne.2 fun h => hc (UInt8.toNat_inj.1 ?_)
   have : c.toNat = 45 := by omega
   rw [this]; rfl
  have hpf : Lib.hasPrefix (c :: r) [45] = false := by
   unfold Lib.hasPrefix
   have : ((45 : UInt8) == c) = false := beq_eq_false_iff_ne.2 (fun h => hc h.symm)
   simp [List.isPrefixOf, this]
  rw [hne, tribunalref02_Parse.j0, if_neg (by decide)]
  unfold Lib.trimPrefix
  rw [hpf]; rfl
end Go.Proofs.YtikencoikigllaaGreatDoor.PurePRy
namespace Go.Proofs.YtikencoikigllaaGreatDoor.Pure
open Go.RowKit Go.Proofs.YtikencoikigllaaGreatDoorW.PrintWords Go.Proofs.YtikencoikigllaaGreatDoorW.PrintLast Go.Proofs.YtikencoikigllaaGreatDoorW.PrintMore Go.Proofs.YtikencoikigllaaGreatDoor.PRy Go.Proofs.YtikencoikigllaaGreatDoor Go.Proofs.YtikencoikigllaaGreatDoor.Mine Big PurePRy
theorem wholeParses_pure (a0 : ByteArray) : ∃ k, PRy.tribunallaw02_WholeParses.f k a0 = some true := by
 obtain ⟨K0, e0⟩ := awake_ev
 by_cases hs : (a0.size : Int) > 20000
 ·refine ⟨K0, ?_⟩
  have g0 : tribunallaw02_awake.f K0 = _ := e0 K0 (Nat.le_refl _)
  rw [tribunallaw02_WholeParses.f, if_pos hs, g0, Option.bind_some]
 obtain ⟨L, rfl⟩ : ∃ L, a0 = ba L := ⟨_, (ba_of a0).symm⟩
 rw [ba_size] at hs
 have hL : L.length ≤ 20000 := by omega
 have hT : (Lib.trimPrefix L [45]).length ≤ L.length := by
  unfold Lib.trimPrefix
  split
  ·rw [List.length_drop]; omega
  exact Nat.le_refl _
 obtain ⟨z, ⟨K1, e1⟩, ⟨K2, e2⟩, hz, _⟩ := Parse_ev L (by omega) _ _ rfl rfl (by omega)
 obtain ⟨K3, e3⟩ := Same_ev z.1 z.2.1 hz
 refine ⟨K0 + K1 + K2 + K3 + 1, ?_⟩
 obtain ⟨k, hk⟩ : ∃ k, k = K0 + K1 + K2 + K3 := ⟨_, rfl⟩
 rw [← hk]
 have g0 : tribunallaw02_awake.f (k + 1) = _ := e0 _ (by omega)
 have g1 : whole_Parse.f (k + 1) (ba L) = _ := e1 _ (by omega)
 have g2 : tribunalref02_Parse.j1 k (ba (Lib.trimPrefix L [45])) (Lib.hasPrefix L [45]) = _ := e2 k (by omega)
 have g3 : tribunalref02_Same.f (k + 1) z.1 z.2.1 z.1 z.2.1 = _ := e3 _ (by omega)
 rw [tribunallaw02_WholeParses.f, if_neg (by rw [ba_size]; omega), g1, Option.bind_some, refParse_f L (by omega), g2, Option.bind_some, g3, Option.bind_some, if_pos rfl, if_pos rfl, g0, Option.bind_some]
end Go.Proofs.YtikencoikigllaaGreatDoor.Pure
